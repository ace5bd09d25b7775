/- The changed flat. -/
import Derived.Test.YtfgnjndicidpkaaSV
namespace Go.Proofs.Ytfgnjndicidpkaa
open Go.Abs Go.IntWalk
variable {K : Known}
theorem g3 {s : St} {a b c d : Blk} : ((((s.push a).push b).push c).push d).get (s.size + 3) = some d := by
  have := gnew (s := ((s.push a).push b).push c) (k := d)
  simpa using this
theorem mk22 {n : Nat} (hn : n ≤ 1000) : amakeSlice Try.prog 22 (goInt n) (goInt n) = some (List.replicate n (.slice none 0 0), fun b => .slice (some ⟨b, 0, none⟩) n n) := by
  have e : (Value.slice none 0 0).cells = #[.slice none 0 0] := rfl
  simp only [amakeSlice, goInt, sl22, ze29, e]
  rw [if_pos (by simp; omega)]
  simp [copies_int]
theorem build24 {a : Option Addr} {n c : Nat} {x : Int} : abuild Try.prog 24 [(0, .slice a n c), (1, .int .i64 x)] = some (.agg #[.slice a n c, .int .i64 x]) := by
  simp [abuild, fo24, ze24, afill, placeOf, fd24_0, fd24_1, Value.cells, isVal, splice]
theorem P0.asg {n : Nat} {l : List Int} (h : P0 n l) : Asg n (asgOf l) := ⟨fun i hi => by have := h.2.1 i hi; unfold asgOf; omega, fun i j hi hj e => h.2.2 i j hi hj (by have h1 := h.2.1 i hi; have h2 := h.2.1 j hj; unfold asgOf at e; omega)⟩
theorem P0.num {n : Nat} {l : List Int} (h : P0 n l) : ∀ i, i < n → l.getD i 0 = (asgOf l i : Nat) := fun i hi => by have := h.2.1 i hi; unfold asgOf; omega
/-- The store while a flat is made. -/
structure FS (s : St) (n O B : Nat) (v : Value) (rent : Int) (c d : List Int) (rent' : Int) (tv : List Value) (st : St) : Prop where
  old : Old s st
  g0 : st.get s.size = some ⟨[v, .int .i64 rent], .rw⟩
  g1 : st.get (s.size + 1) = some ⟨uc c, .rw⟩
  g2 : st.get (s.size + 2) = some ⟨uc d, .rw⟩
  g3 : st.get (s.size + 3) = some ⟨[.slice none 0 0, .int .i64 0], .rw⟩
  out : st.get O = some ⟨[.slice (some ⟨B, 0, none⟩) n n, .int .i64 rent'], .rw⟩
  top : st.get B = some ⟨tv, .rw⟩
  tlen : tv.length = n
  low : s.size + 4 ≤ B
/-- The rows that are made. -/
structure FR (M : List (List Int)) (who what c d : List Int) (O i : Nat) (tv : List Value) (cb : Nat → Nat) (L : Nat → List Int) (st : St) : Prop where
  top : ∀ x, x < i → tv[asgOf who x]? = some (.slice (some ⟨cb x, 0, none⟩) M.length M.length)
  blk : ∀ x, x < i → st.get (cb x) = some ⟨ic (L x), .rw⟩
  low : ∀ x, x < i → O < cb x
  len : ∀ x, x < i → (L x).length = M.length
  val : ∀ x, x < i → ∀ y, y < M.length → (L x).getD (asgOf what y) 0 = matM M x y + c.getD x 0 + d.getD y 0
set_option maxHeartbeats 4000000 in
set_option maxRecDepth 100000 in
theorem c7 (hK : Late K) {M : List (List Int)} {v wv hv : Value} {rent : Int} {c6 d6 who what : List Int} {s : St} (hm : MRow s v M) (hB : Bids M) (hr : 0 ≤ rent ∧ rent ≤ 10000000) (hc6 : Bytes c6 6) (hd6 : Bytes d6 6) (hwho0 : IRow s wv who) (hwhat0 : IRow s hv what) (hP : P0 M.length who) (hQ : P0 M.length what) :
    Ev Try.prog K (.func (.func 7) #[] #[]) [.agg #[v, .int .i64 rent], .agg (uc c6).toArray, .agg (uc d6).toArray, wv, hv] s fun r s' => ∃ H ov, r = .tuple #[.agg #[ov, .int .i64 (rent + Sm M.length (fun x => d6.getD x 0))], .int .i64 (Sm M.length (fun x => c6.getD x 0 + d6.getD x 0))] ∧ MRow s' ov H ∧ H.length = M.length ∧ (∀ x, x < M.length → (rowM H x).length = M.length) ∧ (∀ x y, x < M.length → y < M.length → matM H (asgOf who x) (asgOf what y) = matM M x y + c6.getD x 0 + d6.getD y 0) ∧ Old s s' := by
  obtain ⟨rv, hR, hrow⟩ := id hm
  obtain ⟨av, capv, rfl, _⟩ := id hR
  obtain ⟨aw, capw, rfl, _⟩ := id hwho0
  obtain ⟨at', capt, rfl, _⟩ := id hwhat0
  have hR0 := hR
  have hm6 := hB.most
  have hwl := hP.1
  have hhl := hQ.1
  have hcl := hc6.1
  have hdl := hd6.1
  have hW := hP.asg
  have hH := hQ.asg
  have hwn := hP.num
  have hhn := hQ.num
  refine Ev.enterK (hK.none (by decide) _) Try.func7 rfl rfl (Nat.le_of_ble_eq_true rfl) ?_
  refine Wc.tail ?_
  refine Wc.assoc ?_
  refine Wc.region ?_
  refine Wk.f rfl rfl rfl (Fk.box rfl rfl) ?_
  refine Wk.f rfl rfl rfl (Fk.box rfl rfl) ?_
  refine Wk.f rfl rfl rfl (Fk.box rfl rfl) ?_
  refine Wk.f rfl rfl rfl (Fk.alloc ze24) ?_
  refine Wk.q rfl rfl rfl (Qk.assign rfl) ?_
  refine Wk.next ?_
  refine Wc.store fun s1 e1 => ?_
  have ho1 : Old s s1 := by subst e1; exact (((Old.push _ _).gpush _).gpush _).gpush _
  have hz1 : s1.size = s.size + 4 := by subst e1; simp
  have hg5 : s1.get s.size = some ⟨[.slice av M.length capv, .int .i64 rent], .rw⟩ := by subst e1; exact gpush (gpush (gpush gnew))
  have hg6 : s1.get (s.size + 1) = some ⟨uc c6, .rw⟩ := by subst e1; exact gpush (gpush g1)
  have hg7 : s1.get (s.size + 2) = some ⟨uc d6, .rw⟩ := by subst e1; exact gpush g2
  have hg10 : s1.get (s.size + 3) = some ⟨[.slice none 0 0, .int .i64 0], .rw⟩ := by subst e1; exact g3
  have hza : ∀ a : Blk, (s.push a).size = s.size + 1 := fun a => by simp
  have hzb : ∀ a b : Blk, ((s.push a).push b).size = s.size + 2 := fun a b => by simp
  have hzc : ∀ a b c : Blk, (((s.push a).push b).push c).size = s.size + 3 := fun a b c => by simp
  rw [hzc, hzb, hza]
  clear e1
  refine Wc.assoc ?_
  refine Wc.draw ?_
  refine Wd.store' fun s2 e2 => ?_
  have ho2 : Old s1 s2 := by subst e2; exact Old.reserve _ _
  have hg5 := ho2.get hg5
  have hg6 := ho2.get hg6
  have hg7 := ho2.get hg7
  have hg10 := ho2.get hg10
  have hwho := hwho0.old (ho1.trans ho2)
  have hgB : s2.get (s1.size + 2) = some ⟨[], .dead⟩ := by subst e2; exact gnone (by decide)
  have hgO : s2.get (s1.size + 6) = some ⟨[], .dead⟩ := by subst e2; exact gnone (by decide)
  clear e2
  refine Wd.q rfl rfl rfl (Qk.move rfl) ?_
  refine Wd.q rfl rfl rfl (Qk.lenR rfl rfl rfl hwho sl29) ?_
  refine Wd.f rfl rfl rfl (Fk.makeSlice rfl rfl (mk22 (by omega))) ?_
  refine Wd.q rfl rfl rfl (Qk.fa rfl fd24_1) ?_
  refine Wd.r rfl rfl rfl (Rk.cell rfl sh3 (by first | assumption | repeat (first | exact gnew | exact gsetn gnew | assumption | exact gsetn (by assumption) | exact gsetn (gset (by assumption) (by omega)) | refine gpush ?_ | refine gset ?_ (by first | omega | (simp; omega)) )) (by simp) rfl) rfl ?_
  refine Wd.q rfl rfl rfl (Qk.build rfl build24) ?_
  refine Wd.f rfl rfl rfl (Fk.alloc ze24) ?_
  refine Wd.h rfl rfl rfl (Hk.whole rfl rfl sh24 (by first | assumption | repeat (first | exact gnew | exact gsetn gnew | assumption | exact gsetn (by assumption) | exact gsetn (gset (by assumption) (by omega)) | refine gpush ?_ | refine gset ?_ (by first | omega | (simp; omega)) )) rfl rfl (by first | rfl | (show (true && (Abs.scalar _ && true)) = true; rw [Bool.true_and, Bool.and_true]; assumption))) rfl rfl ?_
  refine Wd.q rfl rfl rfl (Qk.assign rfl) ?_
  refine Wd.next ?_
  refine Wc.store fun s3 e3 => ?_
  simp only [Nat.zero_add, Nat.reduceAdd] at e3 ⊢
  have hF : FS s M.length (s1.size + 6) (s1.size + 2) (.slice av M.length capv) rent c6 d6 rent (List.replicate who.length (.slice none 0 0)) s3 := by
    subst e3
    refine ⟨(((ho1.trans ho2).gset (by omega)).gset (by omega)).gset (by omega), ?_, ?_, ?_, ?_, ?_, ?_, by simp [hwl], by omega⟩
    · exact gset (gset (gset hg5 (by omega)) (by omega)) (by omega)
    · exact gset (gset (gset hg6 (by omega)) (by omega)) (by omega)
    · exact gset (gset (gset hg7 (by omega)) (by omega)) (by omega)
    · exact gset (gset (gset hg10 (by omega)) (by omega)) (by omega)
    · rw [← hwl]; exact gsetn (gsetn (gset hgO (by omega)))
    · exact gset (gset (gsetn hgB) (by omega)) (by omega)
  have hB1 := St.get_lt hF.out
  have hR := Row.old hF.old hR
  generalize hBd : s1.size + 2 = B at *
  generalize hOd : s1.size + 6 = O at *
  have hBO : B < O := by omega
  have hg5' := hF.g0
  have hgO' := hF.out
  clear e3 hg5 hg6 hg7 hg10 hgB hgO hwho
  refine Wc.assoc ?_
  refine Wc.assoc ?_
  refine Wc.region ?_
  refine Wk.q rfl rfl rfl (Qk.fa rfl fd24_0) ?_
  refine Wk.r rfl rfl rfl (Rk.cell rfl sh22 (by first | assumption | repeat (first | exact gnew | exact gsetn gnew | assumption | exact gsetn (by assumption) | exact gsetn (gset (by assumption) (by omega)) | refine gpush ?_ | refine gset ?_ (by first | omega | (simp; omega)) )) (by simp) rfl) ?_
  refine Wk.q rfl rfl rfl (Qk.lenR rfl rfl rfl hR sl22) ?_
  refine Wk.q rfl rfl rfl (Qk.move rfl) ?_
  refine Wk.next ?_
  refine Wc.block ?_
  refine Wc.loop (σ := Nat × List Value × (Nat → Nat) × (Nat → List Int) × St) (fun y => y.1 ≤ M.length ∧ FS s M.length O B (.slice av M.length capv) rent c6 d6 (rent + Sm y.1 (fun x => d6.getD x 0)) y.2.1 y.2.2.2.2 ∧ FR M who what c6 d6 O y.1 y.2.1 y.2.2.1 y.2.2.2.1 y.2.2.2.2)
    (fun y => [(3, .slice aw who.length capw), (4, .slice at' what.length capt), (5, .pointer (some ⟨s.size, 0, none⟩)), (6, .pointer (some ⟨s.size + 1, 0, none⟩)), (7, .pointer (some ⟨s.size + 2, 0, none⟩)), (10, .pointer (some ⟨s.size + 3, 0, none⟩)), (12, .pointer (some ⟨O, 0, none⟩)), (13, .int .i64 (Sm y.1 (fun x => c6.getD x 0 + d6.getD x 0))), (25, .slice av M.length capv), (26, goInt M.length), (27, .int .i64 y.1)]) (fun y => y.2.2.2.2) (fun y => M.length - y.1) (0, List.replicate who.length (.slice none 0 0), fun _ => 0, fun _ => [], s3)
    ⟨Nat.zero_le _, by simpa [Sm] using hF, ⟨by omega, by omega, by omega, by omega, by omega⟩⟩ ⟨rfl, rfl, rfl, rfl, rfl, rfl, rfl, rfl, rfl, rfl, rfl, trivial⟩ rfl ?_
  clear hF hB1 hR hg5' hgO'
  rintro ⟨i, tv, cb, L, st⟩ ⟨hi, hF, hFR⟩
  dsimp only at hi hF hFR ⊢
  have hgF0 := hF.g0
  have hgF1 := hF.g1
  have hgF2 := hF.g2
  have hgF3 := hF.g3
  have hgFo := hF.out
  have hgFt := hF.top
  have hOl := St.get_lt hgFo
  have hBl := St.get_lt hgFt
  have hwho := hwho0.old hF.old
  have hwhat := hwhat0.old hF.old
  have hR := Row.old hF.old hR0
  have htvl := hF.tlen
  have hdb := Sm.bdg (n := i) (g := fun x => d6.getD x 0) (B := 255) fun x hx => by have := hd6.2 x (by omega); omega
  have hsb := Sm.bdg (n := i) (g := fun x => c6.getD x 0 + d6.getD x 0) (B := 510) fun x hx => by have h1 := hd6.2 x (by omega); have h2 := hc6.2 x (by omega); omega
  refine Wc.assoc ?_
  refine Wc.region ?_
  refine Wk.b rfl rfl rfl (Qk.bin rfl rfl rfl) fun b h28 => ?_
  cases b
  · -- t28 = False
    have hge : i = M.length := by
      have : ¬ ((i : Int) < (M.length : Int)) := of_decide_eq_false h28
      omega
    subst hge
    refine Wk.next ?_
    refine Wc.assoc ?_
    refine Wc.condF rfl ?_
    refine Wc.jump (fun _ _ => rfl) ?_
    refine Wc.assoc ?_
    refine Wc.region ?_
    refine Wk.r rfl rfl rfl (Rk.cells rfl sh24 (by first | assumption | repeat (first | exact gnew | exact gsetn gnew | assumption | exact gsetn (by assumption) | exact gsetn (gset (by assumption) (by omega)) | refine gpush ?_ | refine gset ?_ (by first | omega | (simp; omega)) )) (by simp) (by simp)) ?_
    refine Wk.q rfl rfl rfl (Qk.move rfl) ?_
    refine Wk.h rfl rfl rfl (Hk.whole rfl rfl sh24 (by first | assumption | repeat (first | exact gnew | exact gsetn gnew | assumption | exact gsetn (by assumption) | exact gsetn (gset (by assumption) (by omega)) | refine gpush ?_ | refine gset ?_ (by first | omega | (simp; omega)) )) rfl rfl (by first | rfl | (show (true && (Abs.scalar _ && true)) = true; rw [Bool.true_and, Bool.and_true]; assumption))) ?_
    refine Wk.q rfl rfl rfl (Qk.assign rfl) ?_
    refine Wk.next ?_
    refine Wc.store fun s4 e4 => ?_
    have ho4 : Old s s4 := by subst e4; exact hF.old.gset (by omega)
    have hg10 : s4.get (s.size + 3) = some ⟨[.slice (some ⟨B, 0, none⟩) M.length M.length, .int .i64 (rent + Sm M.length (fun x => d6.getD x 0))], .rw⟩ := by subst e4; exact gsetn hgF3
    have hgB4 : s4.get B = some ⟨tv, .rw⟩ := by subst e4; exact gset hgFt (by omega)
    have hcb4 : ∀ x, x < M.length → s4.get (cb x) = some ⟨ic (L x), .rw⟩ := fun x hx => by subst e4; exact gset (hFR.blk x hx) (by have := hFR.low x hx; omega)
    refine Wc.doneC (fun _ _ => rfl) (ares_cell rfl (alW sh24 (by first | assumption | repeat (first | exact gnew | exact gsetn gnew | assumption | exact gsetn (by assumption) | exact gsetn (gset (by assumption) (by omega)) | refine gpush ?_ | refine gset ?_ (by first | omega | (simp; omega)) )) (by simp) rfl) (ares_tmp rfl ares_nil)) ?_
    obtain ⟨o, hInv⟩ := hW.inv
    refine ⟨(List.range M.length).map (fun r => L (o r)), .slice (some ⟨B, 0, none⟩) M.length M.length, rfl, ⟨fun r => .slice (some ⟨cb (o r), 0, none⟩) M.length M.length, ?_, fun r hr => ?_⟩, by simp, fun x hx => ?_, fun x y hx hy => ?_, ho4⟩
    · rw [List.length_map, List.length_range]
      refine Row.of_get hgB4 (by simp) (Nat.le_refl _) fun r hr => ⟨by omega, ?_⟩
      rw [Nat.mul_one]
      have := hFR.top (o r) (hInv.lt r hr)
      rw [hInv.at' r hr] at this
      exact take_drop_one this
    · have hr' : r < M.length := by simpa using hr
      have e : rowM ((List.range M.length).map (fun r => L (o r))) r = L (o r) := by simp [rowM, List.getD, hr']
      rw [e]
      have h1 := hFR.len (o r) (hInv.lt r hr')
      have := IRow.of_get (cap := M.length) (hcb4 (o r) (hInv.lt r hr')) (by simp) (by omega)
      rw [h1] at this
      exact this
    · have e : rowM ((List.range M.length).map (fun r => L (o r))) x = L (o x) := by simp [rowM, List.getD, hx]
      rw [e]; exact hFR.len _ (hInv.lt x hx)
    · have hwx := hW.lt x hx
      have e : rowM ((List.range M.length).map (fun r => L (o r))) (asgOf who x) = L (o (asgOf who x)) := by simp [rowM, List.getD, hwx]
      have hback : o (asgOf who x) = x := hInv.back hW x hx
      unfold matM
      rw [e, hback]
      exact hFR.val x hx y hy
  · -- t28 = True
    have hil : i < M.length := by
      have : (i : Int) < (M.length : Int) := of_decide_eq_true h28
      omega
    have hwi := hW.lt i hil
    have hni : who.getD i 0 = (asgOf who i : Nat) := hwn i hil
    refine Wk.next ?_
    refine Wc.assoc ?_
    refine Wc.condT rfl ?_
    refine Wc.skip ?_
    refine Wc.assoc ?_
    refine Wc.block ?_
    refine Wc.assoc ?_
    refine Wc.region ?_
    refine Wk.q rfl rfl rfl (Qk.move rfl) ?_
    refine Wk.q rfl rfl rfl (Qk.at rfl rfl ar22 sl22 hR (by constructor <;> omega)) ?_
    refine Wk.r rfl rfl rfl (Rk.atS rfl sh29 hR (i := i) (by omega) rfl) ?_
    refine Wk.q rfl rfl rfl (Qk.assign rfl) ?_
    refine Wk.q rfl rfl rfl (Qk.assign rfl) ?_
    refine Wk.next ?_
    refine Wc.assoc ?_
    refine Wc.draw ?_
    refine Wd.store' fun s5 e5 => ?_
    have ho5 : Old st s5 := by subst e5; exact Old.reserve _ _
    have hgF0 := ho5.get hgF0
    have hgF1 := ho5.get hgF1
    have hgF2 := ho5.get hgF2
    have hgF3 := ho5.get hgF3
    have hgFo := ho5.get hgFo
    have hgFt := ho5.get hgFt
    have hgr : s5.get (st.size + 8) = some ⟨[], .dead⟩ := by subst e5; exact gnone (by decide)
    have hwho := hwho.old ho5
    have hwhat := hwhat.old ho5
    have hcb5 : ∀ x, x < i → s5.get (cb x) = some ⟨ic (L x), .rw⟩ := fun x hx => ho5.get (hFR.blk x hx)
    clear e5
    refine Wd.q rfl rfl rfl (Qk.fa rfl fd24_0) ?_
    refine Wd.r rfl rfl rfl (Rk.cell rfl sh22 (by first | assumption | repeat (first | exact gnew | exact gsetn gnew | assumption | exact gsetn (by assumption) | exact gsetn (gset (by assumption) (by omega)) | refine gpush ?_ | refine gset ?_ (by first | omega | (simp; omega)) )) (by simp) rfl) rfl ?_
    refine Wd.q rfl rfl rfl (Qk.move rfl) ?_
    refine Wd.q rfl rfl rfl (Qk.move rfl) ?_
    refine Wd.q rfl rfl rfl (Qk.at rfl rfl ar29 sl29 hwho (by constructor <;> omega)) ?_
    refine Wd.r rfl rfl rfl (Rk.eqv (u := .int .i64 (asgOf who i : Nat)) (Rk.intR rfl sh3 hwho (i := i) (by omega)) (by rw [hni])) rfl ?_
    refine Wd.q rfl rfl rfl (Qk.move rfl) ?_
    refine Wd.q rfl rfl rfl (Qk.lenR rfl rfl rfl hwhat sl29) ?_
    refine Wd.f rfl rfl rfl (Fk.ints rfl rfl sl29 ze3 (by omega)) ?_
    refine Wd.q rfl rfl rfl (Qk.at1 rfl rfl ar22 sl22 (by constructor <;> omega)) ?_
    refine Wd.h rfl rfl rfl (Hk.cell rfl rfl sh29 (by first | assumption | repeat (first | exact gnew | exact gsetn gnew | assumption | exact gsetn (by assumption) | exact gsetn (gset (by assumption) (by omega)) | refine gpush ?_ | refine gset ?_ (by first | omega | (simp; omega)) )) (by first | omega | (simp; omega)) rfl rfl) rfl rfl ?_
    refine Wd.next ?_
    refine Wc.store fun s6 e6 => ?_
    simp only [Nat.zero_add, Nat.reduceAdd] at e6 ⊢
    have hF6 : FS s M.length O B (.slice av M.length capv) rent c6 d6 (rent + Sm i (fun x => d6.getD x 0)) (tv.set (asgOf who i) (.slice (some ⟨st.size + 8, 0, none⟩) what.length what.length)) s6 := by
      subst e6
      refine ⟨((hF.old.trans ho5).gset (by have := hF.old.1; omega)).gset (by have := hF.low; omega), ?_, ?_, ?_, ?_, ?_, ?_, by simpa using htvl, hF.low⟩
      · exact gset (gset hgF0 (by have := hF.low; omega)) (by have := hF.low; omega)
      · exact gset (gset hgF1 (by have := hF.low; omega)) (by have := hF.low; omega)
      · exact gset (gset hgF2 (by have := hF.low; omega)) (by have := hF.low; omega)
      · exact gset (gset hgF3 (by have := hF.low; omega)) (by have := hF.low; omega)
      · exact gset (gset hgFo (by omega)) (by omega)
      · exact gsetn (gset hgFt (by omega))
    have hgr6 : s6.get (st.size + 8) = some ⟨ic (List.replicate what.length 0), .rw⟩ := by subst e6; exact gset (gsetn hgr) (by omega)
    have hcb6 : ∀ x, x < i → s6.get (cb x) = some ⟨ic (L x), .rw⟩ := fun x hx => by
      have h1 := St.get_lt (hFR.blk x hx)
      have h2 := hFR.low x hx
      subst e6
      exact gset (gset (hcb5 x hx) (by omega)) (by omega)
    have hcbl : ∀ x, x < i → cb x < st.size := fun x hx => St.get_lt (hFR.blk x hx)
    clear e6 hgF0 hgF1 hgF2 hgF3 hgFo hgFt hwho hwhat hgr hcb5
    have hri := (hrow i hil).old hF6.old
    have hsq := hB.square i hil
    refine Wc.assoc ?_
    refine Wc.assoc ?_
    refine Wc.region ?_
    refine Wk.q rfl rfl rfl (Qk.move rfl) ?_
    refine Wk.q rfl rfl rfl (Qk.lenR rfl rfl rfl hri sl29) ?_
    refine Wk.q rfl rfl rfl (Qk.move rfl) ?_
    refine Wk.next ?_
    refine Wc.block ?_
    refine Wc.loop (σ := Nat × List Int × St) (fun y => y.1 ≤ M.length ∧ FS s M.length O B (.slice av M.length capv) rent c6 d6 (rent + Sm i (fun x => d6.getD x 0)) (tv.set (asgOf who i) (.slice (some ⟨st.size + 8, 0, none⟩) what.length what.length)) y.2.2 ∧ y.2.2.get (st.size + 8) = some ⟨ic y.2.1, .rw⟩ ∧ y.2.1.length = what.length ∧ (∀ x, x < i → y.2.2.get (cb x) = some ⟨ic (L x), .rw⟩) ∧ ∀ z, z < y.1 → y.2.1.getD (asgOf what z) 0 = matM M i z + c6.getD i 0 + d6.getD z 0)
      (fun y => [(3, .slice aw who.length capw), (4, .slice at' what.length capt), (5, .pointer (some ⟨s.size, 0, none⟩)), (6, .pointer (some ⟨s.size + 1, 0, none⟩)), (7, .pointer (some ⟨s.size + 2, 0, none⟩)), (10, .pointer (some ⟨s.size + 3, 0, none⟩)), (12, .pointer (some ⟨O, 0, none⟩)), (13, .int .i64 (Sm i (fun x => c6.getD x 0 + d6.getD x 0))), (14, .int .i64 i), (25, .slice av M.length capv), (26, goInt M.length), (27, .int .i64 i), (42, rv i), (43, goInt (rowM M i).length), (44, .int .i64 y.1)]) (fun y => y.2.2) (fun y => M.length - y.1) (0, List.replicate what.length 0, s6)
      ⟨Nat.zero_le _, hF6, hgr6, by simp, hcb6, fun z hz => absurd hz (Nat.not_lt_zero _)⟩ ⟨rfl, rfl, rfl, rfl, rfl, rfl, rfl, rfl, rfl, rfl, rfl, rfl, rfl, rfl, rfl, trivial⟩ rfl ?_
    clear hF6 hgr6 hcb6 hri
    rintro ⟨j, rl, su⟩ ⟨hj, hF6, hgr6, hrl, hcb6, hvz⟩
    dsimp only at hj hF6 hgr6 hrl hcb6 hvz ⊢
    have hgF0 := hF6.g0
    have hgF1 := hF6.g1
    have hgF2 := hF6.g2
    have hgF3 := hF6.g3
    have hgFo := hF6.out
    have hgFt := hF6.top
    have hOl6 := St.get_lt hgFo
    have hwho := hwho0.old hF6.old
    have hwhat := hwhat0.old hF6.old
    have hri := (hrow i hil).old hF6.old
    have hlow := hF6.low
    have hci := hc6.2 i (by omega)
    have hdi := hd6.2 i (by omega)
    refine Wc.assoc ?_
    refine Wc.region ?_
    refine Wk.b rfl rfl rfl (Qk.bin rfl rfl rfl) fun b h45 => ?_
    cases b
    · -- t45 = False
      have hge : j = M.length := by
        have : ¬ ((j : Int) < ((rowM M i).length : Int)) := of_decide_eq_false h45
        omega
      subst hge
      refine Wk.next ?_
      refine Wc.assoc ?_
      refine Wc.condF rfl ?_
      refine Wc.jump (fun _ _ => rfl) ?_
      refine Wc.assoc ?_
      refine Wc.draw0 rfl ?_
      refine Wd.q rfl rfl rfl (Qk.fa rfl fd24_1) ?_
      refine Wd.r rfl rfl rfl (Rk.cell rfl sh3 (by first | assumption | repeat (first | exact gnew | exact gsetn gnew | assumption | exact gsetn (by assumption) | exact gsetn (gset (by assumption) (by omega)) | refine gpush ?_ | refine gset ?_ (by first | omega | (simp; omega)) )) (by simp) rfl) rfl ?_
      refine Wd.q rfl rfl rfl (Qk.move rfl) ?_
      refine Wd.q rfl rfl rfl (Qk.iaA rfl rfl ar25 (by constructor <;> omega)) ?_
      refine Wd.r rfl rfl rfl (Rk.cell rfl sh5 (by first | assumption | repeat (first | exact gnew | exact gsetn gnew | assumption | exact gsetn (by assumption) | exact gsetn (gset (by assumption) (by omega)) | refine gpush ?_ | refine gset ?_ (by first | omega | (simp; omega)) )) (by simp) (uc_at (by omega))) rfl ?_
      refine Wd.q rfl rfl rfl (Qk.cvt rfl und5 und3 (i64_in _ (by omega))) ?_
      refine Wd.q rfl rfl rfl (Qk.add rfl rfl (by omega)) ?_
      refine Wd.q rfl rfl rfl (Qk.fa rfl fd24_1) ?_
      refine Wd.h rfl rfl rfl (Hk.cell rfl rfl sh3 (by first | assumption | repeat (first | exact gnew | exact gsetn gnew | assumption | exact gsetn (by assumption) | exact gsetn (gset (by assumption) (by omega)) | refine gpush ?_ | refine gset ?_ (by first | omega | (simp; omega)) )) (by first | exact Nat.le_of_ble_eq_true rfl | (simp; done) | (simp; omega)) (by first | rfl | assumption) (by first | rfl | assumption)) rfl rfl ?_
      refine Wd.next ?_
      refine Wc.store fun s7 e7 => ?_
      have hF7 : FS s M.length O B (.slice av M.length capv) rent c6 d6 (rent + Sm (i + 1) (fun x => d6.getD x 0)) (tv.set (asgOf who i) (.slice (some ⟨st.size + 8, 0, none⟩) what.length what.length)) s7 := by
        subst e7
        refine ⟨hF6.old.gset (by omega), gset hgF0 (by omega), gset hgF1 (by omega), gset hgF2 (by omega), gset hgF3 (by omega), ?_, gset hgFt (by omega), hF6.tlen, hF6.low⟩
        have := gsetn (k := ⟨[.slice (some ⟨B, 0, none⟩) M.length M.length, .int .i64 (rent + Sm i (fun x => d6.getD x 0) + d6.getD i 0)], .rw⟩) hgFo
        rw [show rent + Sm (i + 1) (fun x => d6.getD x 0) = rent + Sm i (fun x => d6.getD x 0) + d6.getD i 0 by simp only [Sm]; omega]
        exact this
      have hgr7 : s7.get (st.size + 8) = some ⟨ic rl, .rw⟩ := by subst e7; exact gset hgr6 (by omega)
      have hcb7 : ∀ x, x < i → s7.get (cb x) = some ⟨ic (L x), .rw⟩ := fun x hx => by subst e7; exact gset (hcb6 x hx) (by have := hFR.low x hx; omega)
      have hgF1 := hF7.g1
      have hgF2 := hF7.g2
      clear e7
      refine Wc.draw0 rfl ?_
      refine Wd.q rfl rfl rfl (Qk.move rfl) ?_
      refine Wd.q rfl rfl rfl (Qk.move rfl) ?_
      refine Wd.q rfl rfl rfl (Qk.iaA rfl rfl ar25 (by constructor <;> omega)) ?_
      refine Wd.r rfl rfl rfl (Rk.cell rfl sh5 (by first | assumption | repeat (first | exact gnew | exact gsetn gnew | assumption | exact gsetn (by assumption) | exact gsetn (gset (by assumption) (by omega)) | refine gpush ?_ | refine gset ?_ (by first | omega | (simp; omega)) )) (by simp) (uc_at (by omega))) rfl ?_
      refine Wd.q rfl rfl rfl (Qk.cvt rfl und5 und3 (i64_in _ (by omega))) ?_
      refine Wd.q rfl rfl rfl (Qk.move rfl) ?_
      refine Wd.q rfl rfl rfl (Qk.iaA rfl rfl ar25 (by constructor <;> omega)) ?_
      refine Wd.r rfl rfl rfl (Rk.cell rfl sh5 (by first | assumption | repeat (first | exact gnew | exact gsetn gnew | assumption | exact gsetn (by assumption) | exact gsetn (gset (by assumption) (by omega)) | refine gpush ?_ | refine gset ?_ (by first | omega | (simp; omega)) )) (by simp) (uc_at (by omega))) rfl ?_
      refine Wd.q rfl rfl rfl (Qk.cvt rfl und5 und3 (i64_in _ (by omega))) ?_
      refine Wd.q rfl rfl rfl (Qk.add rfl rfl (by omega)) ?_
      refine Wd.q rfl rfl rfl (Qk.add rfl rfl (by omega)) ?_
      refine Wd.q rfl rfl rfl (Qk.assign rfl) ?_
      refine Wd.next ?_
      refine Wc.thence (fun _ _ => rfl) ?_
      refine Wc.region ?_
      refine Wk.q rfl rfl rfl (Qk.add rfl rfl (by omega)) ?_
      refine Wk.q rfl rfl rfl (Qk.move rfl) ?_
      refine Wk.next ?_
      refine Wc.finish fun fr hf => ?_
      refine ⟨(i + 1, tv.set (asgOf who i) (.slice (some ⟨st.size + 8, 0, none⟩) what.length what.length), fun x => if x = i then st.size + 8 else cb x, fun x => if x = i then rl else L x, s7), ⟨hil, hF7, ?_⟩, by dsimp only; omega, rfl, hf.less ⟨rfl, rfl, rfl, rfl, rfl, rfl, rfl, by show some (Value.int .i64 _) = some (.int .i64 _); simp only [Sm], rfl, rfl, rfl, trivial⟩⟩
      refine ⟨fun x hx => ?_, fun x hx => ?_, fun x hx => ?_, fun x hx => ?_, fun x hx y hy => ?_⟩
      · dsimp only
        by_cases e : x = i
        · subst e; simp only [if_true]; rw [List.getElem?_set_self (by omega), hhl]
        · simp only [e, if_false]
          rw [List.getElem?_set_ne (fun e2 => e (hW.inj _ _ (by omega) hil e2.symm))]
          exact hFR.top x (by omega)
      · dsimp only
        by_cases e : x = i
        · subst e; simp only [if_true]; exact hgr7
        · simp only [e, if_false]; exact hcb7 x (by omega)
      · dsimp only
        by_cases e : x = i
        · simp only [e, if_true]; omega
        · simp only [e, if_false]; exact hFR.low x (by omega)
      · dsimp only
        by_cases e : x = i
        · simp only [e, if_true]; omega
        · simp only [e, if_false]; exact hFR.len x (by omega)
      · dsimp only
        by_cases e : x = i
        · subst e; simp only [if_true]; exact hvz y hy
        · simp only [e, if_false]; exact hFR.val x (by omega) y hy
    · -- t45 = True
      have hjl : j < M.length := by
        have : (j : Int) < ((rowM M i).length : Int) := of_decide_eq_true h45
        omega
      have hwj := hH.lt j hjl
      have hnj : what.getD j 0 = (asgOf what j : Nat) := hhn j hjl
      have hdj := hd6.2 j (by omega)
      have hvb := hB.range i j hil hjl
      have hvb' : 0 ≤ (rowM M i).getD j 0 ∧ (rowM M i).getD j 0 ≤ 1000000 := hvb
      have htvi : (tv.set (asgOf who i) (.slice (some ⟨st.size + 8, 0, none⟩) what.length what.length))[((asgOf who i : Nat) : Int).toNat]? = some (.slice (some ⟨st.size + 8, 0, none⟩) what.length what.length) := by
        rw [Int.toNat_natCast, List.getElem?_set_self (by omega)]
      refine Wk.next ?_
      refine Wc.assoc ?_
      refine Wc.condT rfl ?_
      refine Wc.skip ?_
      refine Wc.assoc ?_
      refine Wc.block ?_
      refine Wc.assoc ?_
      refine Wc.region ?_
      refine Wk.q rfl rfl rfl (Qk.move rfl) ?_
      refine Wk.q rfl rfl rfl (Qk.at rfl rfl ar29 sl29 hri (by constructor <;> omega)) ?_
      refine Wk.r rfl rfl rfl (Rk.intR rfl sh3 hri (i := j) (by omega)) ?_
      refine Wk.q rfl rfl rfl (Qk.assign rfl) ?_
      refine Wk.q rfl rfl rfl (Qk.assign rfl) ?_
      refine Wk.next ?_
      refine Wc.draw0 rfl ?_
      refine Wd.q rfl rfl rfl (Qk.fa rfl fd24_0) ?_
      refine Wd.r rfl rfl rfl (Rk.cell rfl sh22 (by first | assumption | repeat (first | exact gnew | exact gsetn gnew | assumption | exact gsetn (by assumption) | exact gsetn (gset (by assumption) (by omega)) | refine gpush ?_ | refine gset ?_ (by first | omega | (simp; omega)) )) (by simp) rfl) (by kernel_rfl) ?_
      refine Wd.q rfl rfl rfl (Qk.move rfl) ?_
      refine Wd.q rfl rfl rfl (Qk.move rfl) ?_
      refine Wd.q rfl rfl rfl (Qk.at rfl rfl ar29 sl29 hwho (by constructor <;> omega)) ?_
      refine Wd.r rfl rfl rfl (Rk.eqv (u := .int .i64 (asgOf who i : Nat)) (Rk.intR rfl sh3 hwho (i := i) (by omega)) (by rw [hni])) (by kernel_rfl) ?_
      refine Wd.q rfl rfl rfl (Qk.at1 rfl rfl ar22 sl22 (by constructor <;> omega)) ?_
      refine Wd.r rfl rfl rfl (Rk.cell rfl sh29 (by first | assumption | repeat (first | exact gnew | exact gsetn gnew | assumption | exact gsetn (by assumption) | exact gsetn (gset (by assumption) (by omega)) | refine gpush ?_ | refine gset ?_ (by first | omega | (simp; omega)) )) (by simp) (htvi)) (by kernel_rfl) ?_
      refine Wd.q rfl rfl rfl (Qk.move rfl) ?_
      refine Wd.q rfl rfl rfl (Qk.move rfl) ?_
      refine Wd.q rfl rfl rfl (Qk.at rfl rfl ar29 sl29 hwhat (by constructor <;> omega)) ?_
      refine Wd.r rfl rfl rfl (Rk.eqv (u := .int .i64 (asgOf what j : Nat)) (Rk.intR rfl sh3 hwhat (i := j) (by omega)) (by rw [hnj])) (by kernel_rfl) ?_
      refine Wd.q rfl rfl rfl (Qk.move rfl) ?_
      refine Wd.q rfl rfl rfl (Qk.move rfl) ?_
      refine Wd.q rfl rfl rfl (Qk.iaA rfl rfl ar25 (by constructor <;> omega)) ?_
      refine Wd.r rfl rfl rfl (Rk.cell rfl sh5 (by first | assumption | repeat (first | exact gnew | exact gsetn gnew | assumption | exact gsetn (by assumption) | exact gsetn (gset (by assumption) (by omega)) | refine gpush ?_ | refine gset ?_ (by first | omega | (simp; omega)) )) (by simp) (uc_at (by omega))) (by kernel_rfl) ?_
      refine Wd.q rfl rfl rfl (Qk.cvt rfl und5 und3 (i64_in _ (by omega))) ?_
      refine Wd.q rfl rfl rfl (Qk.add rfl rfl (by omega)) ?_
      refine Wd.q rfl rfl rfl (Qk.move rfl) ?_
      refine Wd.q rfl rfl rfl (Qk.iaA rfl rfl ar25 (by constructor <;> omega)) ?_
      refine Wd.r rfl rfl rfl (Rk.cell rfl sh5 (by first | assumption | repeat (first | exact gnew | exact gsetn gnew | assumption | exact gsetn (by assumption) | exact gsetn (gset (by assumption) (by omega)) | refine gpush ?_ | refine gset ?_ (by first | omega | (simp; omega)) )) (by simp) (uc_at (by omega))) (by kernel_rfl) ?_
      refine Wd.q rfl rfl rfl (Qk.cvt rfl und5 und3 (i64_in _ (by omega))) ?_
      refine Wd.q rfl rfl rfl (Qk.add rfl rfl (by omega)) ?_
      refine Wd.q rfl rfl rfl (Qk.at1 rfl rfl ar29 sl29 (by constructor <;> omega)) ?_
      refine Wd.h rfl rfl rfl (Hk.int (i := (asgOf what j)) rfl rfl sh3 (by first | assumption | repeat (first | exact gnew | exact gsetn gnew | assumption | exact gsetn (by assumption) | exact gsetn (gset (by assumption) (by omega)) | refine gpush ?_ | refine gset ?_ (by first | omega | (simp; omega)) )) (by first | omega | (simp; omega))) (by kernel_rfl) (by kernel_rfl) ?_
      refine Wd.next ?_
      refine Wc.store fun s8 e8 => ?_
      have hF8 : FS s M.length O B (.slice av M.length capv) rent c6 d6 (rent + Sm i (fun x => d6.getD x 0)) (tv.set (asgOf who i) (.slice (some ⟨st.size + 8, 0, none⟩) what.length what.length)) s8 := by
        subst e8
        exact ⟨hF6.old.gset (by have := hF.old.1; omega), gset hgF0 (by omega), gset hgF1 (by omega), gset hgF2 (by omega), gset hgF3 (by omega), gset hgFo (by omega), gset hgFt (by omega), hF6.tlen, hF6.low⟩
      have hgr8 : s8.get (st.size + 8) = some ⟨ic (rl.set (asgOf what j) ((rowM M i).getD j 0 + c6.getD i 0 + d6.getD j 0)), .rw⟩ := by subst e8; exact gsetn hgr6
      have hcb8 : ∀ x, x < i → s8.get (cb x) = some ⟨ic (L x), .rw⟩ := fun x hx => by subst e8; exact gset (hcb6 x hx) (by have := hcbl x hx; omega)
      refine Wc.thence (fun _ _ => rfl) ?_
      refine Wc.region ?_
      refine Wk.q rfl rfl rfl (Qk.add rfl rfl (by omega)) ?_
      refine Wk.q rfl rfl rfl (Qk.move rfl) ?_
      refine Wk.next ?_
      refine Wc.finish fun fr hf => ?_
      refine ⟨(j + 1, _, s8), ⟨hjl, hF8, hgr8, by simpa using hrl, hcb8, fun z hz => ?_⟩, by dsimp only; omega, rfl, hf.less ⟨rfl, rfl, rfl, rfl, rfl, rfl, rfl, rfl, rfl, rfl, rfl, rfl, rfl, rfl, rfl, trivial⟩⟩
      dsimp only at hz ⊢
      rw [getD_set (by omega)]
      by_cases e : z = j
      · subst e; rw [if_pos rfl]; rfl
      · rw [if_neg (fun e2 => e (hH.inj _ _ (by omega) hjl e2.symm))]
        exact hvz z (by omega)
end Go.Proofs.Ytfgnjndicidpkaa
