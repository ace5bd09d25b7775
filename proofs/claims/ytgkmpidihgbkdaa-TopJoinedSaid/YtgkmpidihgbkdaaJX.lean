/- Networks side by side. -/
import Derived.Test.YtgkmpidihgbkdaaJV
namespace Go.Proofs.Ytgkmpidihgbkdaa
open Go.Abs
variable {K : Known}

/-- The nodes of a part in the whole; its arcs. -/
def nodeL (Nz own shift : Int) (u : Nat) : List Int := (List.range u).map fun j : Nat => nodeOf Nz own shift j
def arcOf (Nz own shift : Int) (a : Arc) : Arc := ⟨nodeOf Nz own shift a.fr, nodeOf Nz own shift a.to, a.cap⟩
def arcAtL (L : List Int) (a : Arc) : Arc := ⟨L.getD a.fr.toNat 0, L.getD a.to.toNat 0, a.cap⟩

/-- What stays while the arcs are put together. -/
structure BF (s : St) (z : Nat) (nN mN : Int) (nv mv : Value) (sx : St) : Prop where
  old : Old s sx
  size : z ≤ sx.size
  n : sx.get s.size = some ⟨[.int .i64 nN, nv], .rw⟩
  m : sx.get (s.size + 1) = some ⟨[.int .i64 mN, mv], .rw⟩
  r : sx.get (s.size + 1 + 1) = some ⟨[.int .i64 0, .slice none 0 0], .rw⟩
theorem BF.push {s : St} {z : Nat} {nN mN : Int} {nv mv : Value} {sx : St} (h : BF s z nN mN nv mv sx) {k : Blk} : BF s z nN mN nv mv (sx.push k) :=
  ⟨h.old.gpush _, by have := h.size; simp; omega, gpush h.n, gpush h.m, gpush h.r⟩
theorem BF.set {s : St} {z : Nat} {nN mN : Int} {nv mv : Value} {sx : St} (h : BF s z nN mN nv mv sx) {b : Nat} {k : Blk} (hb : s.size + 3 ≤ b) : BF s z nN mN nv mv (sx.set b k) :=
  ⟨h.old.gset (by omega), by have := h.size; simpa using this, gset h.n (by omega), gset h.m (by omega), gset h.r (by omega)⟩
theorem BF.same {s : St} {z : Nat} {nN mN : Int} {nv mv : Value} {sx sy : St} {M : List Nat} (h : BF s z nN mN nv mv sx) (hs : Same M sx sy) (hm : ∀ x ∈ M, s.size + 3 ≤ x) : BF s z nN mN nv mv sy :=
  ⟨Same.older h.old hs (fun x hx => by have := hm x hx; omega), Nat.le_trans h.size hs.1, hs.get h.n (fun hx => by have := hm _ hx; omega), hs.get h.m (fun hx => by have := hm _ hx; omega), hs.get h.r (fun hx => by have := hm _ hx; omega)⟩

set_option maxHeartbeats 4000000 in
set_option maxRecDepth 100000 in
theorem c7 (hK : Late K) {nv mv : Value} {nN mN : Int} {nl ml : List Arc} {s : St} (hnok : NetOk nN nl) (hmok : NetOk mN ml) (hn : ARow s nv nl) (hm : ARow s mv ml) :
    Ev Try.prog K (.func (.func 7) #[] #[]) [.agg #[.int .i64 nN, nv], .agg #[.int .i64 mN, mv]] s fun r s' => ∃ v' av, r = .tuple #[.agg #[.int .i64 (nN + mN - 2), v'], av] ∧
      ARow s' v' (nl.map (arcOf (nN + mN - 2) nN 0) ++ ml.map (arcAtL (nodeL (nN + mN - 2) mN (nN - 2) mN.toNat))) ∧ IRow s' av (nodeL (nN + mN - 2) mN (nN - 2) mN.toNat) ∧ Old s s' := by
  have hnN := hnok.most
  have hmN := hmok.most
  have hnN2 := hnok.two
  have hmN2 := hmok.two
  have hnll := hnok.len
  have hmll := hmok.len
  have hsn := same_row hn
  have hsm := same_row hm
  refine Ev.enterK (hK.none (by decide) _) Try.func7 rfl rfl (Nat.le_of_ble_eq_true rfl) ?_
  refine Wc.tail ?_
  refine Wc.assoc ?_
  refine Wc.region ?_
  refine Wk.f rfl rfl rfl (Fk.box rfl rfl) ?_
  refine Wk.f rfl rfl rfl (Fk.box rfl rfl) ?_
  refine Wk.f rfl rfl rfl (Fk.alloc ze24) ?_
  refine Wk.q rfl rfl rfl (Qk.assign rfl) ?_
  refine Wk.next ?_
  refine Wc.store fun s1 e1 => ?_
  have ho1 : Old s s1 := by subst e1; exact (((Old.refl s).gpush _).gpush _).gpush _
  have hz1 : s1.size = s.size + 3 := by subst e1; simp
  have hn1 : s1.get s.size = some ⟨[.int .i64 nN, nv], .rw⟩ := by subst e1; exact gpush (gpush gnew)
  have hm1 : s1.get (s.push ⟨[.int .i64 nN, nv], .rw⟩).size = some ⟨[.int .i64 mN, mv], .rw⟩ := by subst e1; exact gpush gnew
  have hr1 : s1.get ((s.push ⟨[.int .i64 nN, nv], .rw⟩).push ⟨[.int .i64 mN, mv], .rw⟩).size = some ⟨[.int .i64 0, .slice none 0 0], .rw⟩ := by subst e1; exact gnew
  simp only [St.size_push] at hm1 hr1 ⊢
  refine Wc.assoc ?_
  refine Wc.region ?_
  refine Wk.q rfl rfl rfl (Qk.fa rfl fd24_0) ?_
  refine Wk.r rfl rfl rfl (Rk.cell rfl sh3 (by first | assumption | repeat (first | exact gnew | exact gsetn gnew | assumption | exact gsetn hd5 | refine gpush ?_ | refine gset ?_ (by simp; omega) )) (by simp) rfl) ?_
  refine Wk.q rfl rfl rfl (Qk.fa rfl fd24_0) ?_
  refine Wk.r rfl rfl rfl (Rk.cell rfl sh3 (by first | assumption | repeat (first | exact gnew | exact gsetn gnew | assumption | exact gsetn hd5 | refine gpush ?_ | refine gset ?_ (by simp; omega) )) (by simp) rfl) ?_
  refine Wk.q rfl rfl rfl (Qk.add rfl rfl (by omega)) ?_
  refine Wk.q rfl rfl rfl (Qk.sub rfl rfl (by omega)) ?_
  refine Wk.q rfl rfl rfl (Qk.build rfl build24') ?_
  refine Wk.f rfl rfl rfl (Fk.alloc ze24) ?_
  refine Wk.h rfl rfl rfl (Hk.whole rfl rfl sh24 (by first | assumption | repeat (first | exact gnew | exact gsetn gnew | assumption | exact gsetn hd5 | refine gpush ?_ | refine gset ?_ (by simp; omega) )) rfl rfl (by first | rfl | (show (true && (Abs.scalar _ && true)) = true; rw [Bool.true_and, Bool.and_true]; assumption))) ?_
  refine Wk.next ?_
  refine Wc.store fun s2 e2 => ?_
  have hF : BF s s2.size nN mN nv mv s2 := by subst e2; exact ⟨(ho1.gpush _).gset (by omega), Nat.le_refl _, gset (gpush hn1) (by omega), gset (gpush hm1) (by omega), gset (gpush hr1) (by omega)⟩
  have hz2 : s2.size = s.size + 4 := by subst e2; simp [hz1]
  have hb : s2.get s1.size = some ⟨[.int .i64 (nN + mN - 2), .slice none 0 0], .rw⟩ := by subst e2; exact gsetn gnew
  clear e2
  refine Wc.assoc ?_
  refine Wc.region ?_
  refine Wk.q rfl rfl rfl (Qk.makeFunc rfl rfl) ?_
  refine Wk.q rfl rfl rfl (Qk.assign rfl) ?_
  refine Wk.next ?_
  refine Wc.assoc ?_
  refine Wc.region ?_
  refine Wk.q rfl rfl rfl (Qk.assign rfl) ?_
  refine Wk.next ?_
  refine Wc.assoc ?_
  refine Wc.assoc ?_
  refine Wc.region ?_
  refine Wk.q rfl rfl rfl (Qk.assign rfl) ?_
  refine Wk.next ?_
  refine Wc.block ?_
  refine Wc.loop (σ := Nat × Value × Option Nat × St) (fun y => (y.1 : Int) ≤ mN ∧ BF s s2.size nN mN nv mv y.2.2.2 ∧ y.2.2.2.get s1.size = some ⟨[.int .i64 (nN + mN - 2), .slice none 0 0], .rw⟩ ∧ Grew y.2.2.2 s2.size y.2.1 1 (nodeL (nN + mN - 2) mN (nN - 2) y.1).length (ic (nodeL (nN + mN - 2) mN (nN - 2) y.1)) y.2.2.1)
    (fun y => [(2, .pointer (some ⟨s.size, 0, none⟩)), (3, .pointer (some ⟨s.size + 1, 0, none⟩)), (4, .pointer (some ⟨s.size + 1 + 1, 0, none⟩)), (6, .pointer (some ⟨s1.size, 0, none⟩)), (7, .func (.func 17) #[] #[.pointer (some ⟨s1.size, 0, none⟩)]), (8, y.2.1), (9, .int .i64 y.1)]) (fun y => y.2.2.2) (fun y => mN.toNat - y.1) (0, .slice none 0 0, none, s2)
    ⟨by dsimp only; omega, hF, hb, Grew.nil⟩ ⟨rfl, rfl, rfl, rfl, rfl, rfl, rfl, trivial⟩ rfl ?_
  clear hF hb
  rintro ⟨u, av, ba, sa⟩ ⟨hu, hF, hb, hga⟩
  dsimp only at hu hF hb hga ⊢
  have hna := hF.n
  have hma := hF.m
  refine Wc.assoc ?_
  refine Wc.assoc ?_
  refine Wc.region ?_
  refine Wk.q rfl rfl rfl (Qk.move rfl) ?_
  refine Wk.q rfl rfl rfl (Qk.fa rfl fd24_0) ?_
  refine Wk.r rfl rfl rfl (Rk.cell rfl sh3 (by first | assumption | repeat (first | exact gnew | exact gsetn gnew | assumption | exact gsetn hd5 | refine gpush ?_ | refine gset ?_ (by simp; omega) )) (by simp) rfl) ?_
  refine Wk.b rfl rfl rfl (Qk.bin rfl rfl rfl) fun b h25 => ?_
  cases b
  · -- t25 = False
    have hue : (u : Int) = mN := by
      have : ¬ ((u : Int) < mN) := of_decide_eq_false h25
      omega
    have hue2 : u = mN.toNat := by omega
    subst hue2
    refine Wk.next ?_
    refine Wc.condF rfl ?_
    refine Wc.jump (fun _ _ => rfl) ?_
    refine Wc.assoc ?_
    refine Wc.assoc ?_
    refine Wc.region ?_
    refine Wk.q rfl rfl rfl (Qk.fa rfl fd24_1) ?_
    refine Wk.r rfl rfl rfl (Rk.cell rfl sh22 (by first | assumption | repeat (first | exact gnew | exact gsetn gnew | assumption | exact gsetn hd5 | refine gpush ?_ | refine gset ?_ (by simp; omega) )) (by simp) rfl) ?_
    refine Wk.q rfl rfl rfl (Qk.lenR rfl rfl rfl hn sl22) ?_
    refine Wk.q rfl rfl rfl (Qk.move rfl) ?_
    refine Wk.next ?_
    refine Wc.block ?_
    refine Wc.loop (σ := Nat × Value × Option Nat × St) (fun y => y.1 ≤ nl.length ∧ BF s s2.size nN mN nv mv y.2.2.2 ∧ y.2.2.2.get s1.size = some ⟨[.int .i64 (nN + mN - 2), y.2.1], .rw⟩ ∧ Grew y.2.2.2 s2.size av 1 (nodeL (nN + mN - 2) mN (nN - 2) mN.toNat).length (ic (nodeL (nN + mN - 2) mN (nN - 2) mN.toNat)) ba ∧
        Grew y.2.2.2 s2.size y.2.1 3 ((nl.take y.1).map (arcOf (nN + mN - 2) nN 0)).length (acs ((nl.take y.1).map (arcOf (nN + mN - 2) nN 0))) y.2.2.1 ∧ ∀ b, y.2.2.1 = some b → ba ≠ some b)
      (fun y => [(2, .pointer (some ⟨s.size, 0, none⟩)), (3, .pointer (some ⟨s.size + 1, 0, none⟩)), (4, .pointer (some ⟨s.size + 1 + 1, 0, none⟩)), (6, .pointer (some ⟨s1.size, 0, none⟩)), (7, .func (.func 17) #[] #[.pointer (some ⟨s1.size, 0, none⟩)]), (8, av), (40, nv), (41, goInt nl.length), (42, .int .i64 y.1)]) (fun y => y.2.2.2) (fun y => nl.length - y.1) (0, .slice none 0 0, none, sa)
      ⟨Nat.zero_le _, hF, hb, hga, by simpa [acs] using Grew.nil, fun b e => by cases e⟩ ⟨rfl, rfl, rfl, rfl, rfl, rfl, rfl, rfl, rfl, trivial⟩ rfl ?_
    clear hF hb hga hna hma
    rintro ⟨i, v6, bo, sa⟩ ⟨hi, hF, hb, hga, hgv, hdis⟩
    dsimp only at hi hF hb hga hgv hdis ⊢
    have hna := hF.n
    have hma := hF.m
    refine Wc.assoc ?_
    refine Wc.region ?_
    refine Wk.b rfl rfl rfl (Qk.bin rfl rfl rfl) fun b h43 => ?_
    cases b
    · -- t43 = False
      have hge : nl.length ≤ i := by
        have : ¬ ((i : Int) < (nl.length : Int)) := of_decide_eq_false h43
        omega
      obtain rfl : i = nl.length := by omega
      rw [List.take_length] at hgv
      refine Wk.next ?_
      refine Wc.assoc ?_
      refine Wc.condF rfl ?_
      refine Wc.jump (fun _ _ => rfl) ?_
      refine Wc.assoc ?_
      refine Wc.assoc ?_
      refine Wc.region ?_
      refine Wk.q rfl rfl rfl (Qk.fa rfl fd24_1) ?_
      refine Wk.r rfl rfl rfl (Rk.cell rfl sh22 (by first | assumption | repeat (first | exact gnew | exact gsetn gnew | assumption | exact gsetn hd5 | refine gpush ?_ | refine gset ?_ (by simp; omega) )) (by simp) rfl) ?_
      refine Wk.q rfl rfl rfl (Qk.lenR rfl rfl rfl hm sl22) ?_
      refine Wk.q rfl rfl rfl (Qk.move rfl) ?_
      refine Wk.next ?_
      refine Wc.block ?_
      refine Wc.loop (σ := Nat × Value × Option Nat × St) (fun y => y.1 ≤ ml.length ∧ BF s s2.size nN mN nv mv y.2.2.2 ∧ y.2.2.2.get s1.size = some ⟨[.int .i64 (nN + mN - 2), y.2.1], .rw⟩ ∧ Grew y.2.2.2 s2.size av 1 (nodeL (nN + mN - 2) mN (nN - 2) mN.toNat).length (ic (nodeL (nN + mN - 2) mN (nN - 2) mN.toNat)) ba ∧
          Grew y.2.2.2 s2.size y.2.1 3 (nl.map (arcOf (nN + mN - 2) nN 0) ++ (ml.take y.1).map (arcAtL (nodeL (nN + mN - 2) mN (nN - 2) mN.toNat))).length (acs (nl.map (arcOf (nN + mN - 2) nN 0) ++ (ml.take y.1).map (arcAtL (nodeL (nN + mN - 2) mN (nN - 2) mN.toNat)))) y.2.2.1 ∧ ∀ b, y.2.2.1 = some b → ba ≠ some b)
        (fun y => [(4, .pointer (some ⟨s.size + 1 + 1, 0, none⟩)), (6, .pointer (some ⟨s1.size, 0, none⟩)), (8, av), (68, mv), (69, goInt ml.length), (70, .int .i64 y.1)]) (fun y => y.2.2.2) (fun y => ml.length - y.1) (0, v6, bo, sa)
        ⟨Nat.zero_le _, hF, hb, hga, by simpa using hgv, hdis⟩ ⟨rfl, rfl, rfl, rfl, rfl, rfl, trivial⟩ rfl ?_
      clear hF hb hga hgv hdis hna hma
      rintro ⟨i, v6, bo, sa⟩ ⟨hi, hF, hb, hga, hgv, hdis⟩
      dsimp only at hi hF hb hga hgv hdis ⊢
      obtain ⟨hc6, hs6, hi6⟩ := hgv.sc
      refine Wc.assoc ?_
      refine Wc.region ?_
      refine Wk.b rfl rfl rfl (Qk.bin rfl rfl rfl) fun b h71 => ?_
      cases b
      · -- t71 = False
        have hge : ml.length ≤ i := by
          have : ¬ ((i : Int) < (ml.length : Int)) := of_decide_eq_false h71
          omega
        obtain rfl : i = ml.length := by omega
        rw [List.take_length] at hgv
        have hra := hF.r
        refine Wk.next ?_
        refine Wc.assoc ?_
        refine Wc.condF rfl ?_
        refine Wc.jump (fun _ _ => rfl) ?_
        refine Wc.assoc ?_
        refine Wc.region ?_
        refine Wk.r rfl rfl rfl (Rk.cells rfl sh24 (by first | assumption | repeat (first | exact gnew | exact gsetn gnew | assumption | exact gsetn hd5 | refine gpush ?_ | refine gset ?_ (by simp; omega) )) (by simp) (by simp)) ?_
        refine Wk.q rfl rfl rfl (Qk.move rfl) ?_
        refine Wk.h rfl rfl rfl (Hk.whole rfl rfl sh24 (by first | assumption | repeat (first | exact gnew | exact gsetn gnew | assumption | exact gsetn hd5 | refine gpush ?_ | refine gset ?_ (by simp; omega) )) rfl rfl (by first | rfl | (show (true && (Abs.scalar _ && true)) = true; rw [Bool.true_and, Bool.and_true]; assumption))) ?_
        refine Wk.q rfl rfl rfl (Qk.assign rfl) ?_
        refine Wk.next ?_
        refine Wc.store fun s3 e3 => ?_
        have hld : aload Try.prog s3 24 (.pointer (some ⟨s.size + 1 + 1, 0, none⟩)) = some (.agg #[.int .i64 (nN + mN - 2), v6]) := by
          subst e3
          simp [aload, sh24, St.cells, gsetn hra]
        refine Wc.doneC (fun _ _ => rfl) (ares_cell rfl hld (ares_tmp rfl ares_nil)) ?_
        subst e3
        refine ⟨v6, av, rfl, (hgv.keep fun b e => ?_).arow, (hga.keep fun b e => ?_).irow, hF.old.gset (by omega)⟩
        · subst e; have := hgv.lt; rw [St.get_set_other _ _ _ _ (by omega)]
        · subst e; have := hga.lt; rw [St.get_set_other _ _ _ _ (by omega)]
      · -- t71 = True
        have hlt : i < ml.length := by
          have : (i : Int) < (ml.length : Int) := of_decide_eq_true h71
          omega
        obtain ⟨a1, a2, a3, a4, a5, a6, a7⟩ := hmok.arc i hlt
        have hold := hF.old
        refine Wk.next ?_
        refine Wc.assoc ?_
        refine Wc.condT rfl ?_
        refine Wc.skip ?_
        refine Wc.assoc ?_
        refine Wc.block ?_
        refine Wc.assoc ?_
        refine Wc.region ?_
        refine Wk.q rfl rfl rfl (Qk.at rfl rfl ar22 sl22 (hm.old (by assumption)) (by constructor <;> omega)) ?_
        refine Wk.r rfl rfl rfl (Rk.arc rfl sh47 (hm.old (by assumption)) (i := i) (by omega)) ?_
        refine Wk.f rfl rfl rfl (Fk.alloc ze47) ?_
        refine Wk.h rfl rfl rfl (Hk.arc rfl rfl sh47 (by first | assumption | repeat (first | exact gnew | exact gsetn gnew | assumption | exact gsetn hd5 | refine gpush ?_ | refine gset ?_ (by simp; omega) )) rfl) ?_
        refine Wk.next ?_
        refine Wc.store fun s4 e4 => ?_
        have hF4 : BF s s2.size nN mN nv mv s4 := by subst e4; exact (hF.push).set (by have := hF.size; omega)
        have hb4 : s4.get s1.size = some ⟨[.int .i64 (nN + mN - 2), v6], .rw⟩ := by subst e4; exact gset (gpush hb) (Nat.ne_of_gt (St.get_lt hb))
        have ha4 : s4.get sa.size = some ⟨acells (arcAt ml i), .rw⟩ := by subst e4; exact gsetn gnew
        have hga4 : Grew s4 s2.size av 1 (nodeL (nN + mN - 2) mN (nN - 2) mN.toNat).length (ic (nodeL (nN + mN - 2) mN (nN - 2) mN.toNat)) ba := by subst e4; exact hga.keep fun b e => by subst e; have := hga.lt; rw [St.get_set_other _ _ _ _ (by omega), St.get_push_lt _ _ _ (by omega)]
        have hgv4 : Grew s4 s2.size v6 3 (nl.map (arcOf (nN + mN - 2) nN 0) ++ (ml.take i).map (arcAtL (nodeL (nN + mN - 2) mN (nN - 2) mN.toNat))).length (acs (nl.map (arcOf (nN + mN - 2) nN 0) ++ (ml.take i).map (arcAtL (nodeL (nN + mN - 2) mN (nN - 2) mN.toNat)))) bo := by subst e4; exact hgv.keep fun b e => by subst e; have := hgv.lt; rw [St.get_set_other _ _ _ _ (by omega), St.get_push_lt _ _ _ (by omega)]
        clear e4
        refine Wc.draw ?_
        refine Wd.store' fun s5 e5 => ?_
        have ho45 : Old s4 s5 := by subst e5; exact Old.reserve _ _
        have hF5 : BF s s2.size nN mN nv mv s5 := hF4.same (ho45.same []) (fun x hx => by simp at hx)
        have hb5 := ho45.get hb4
        have ha5 := ho45.get ha4
        have hga5 := hga4.same (ho45.same []) (fun b _ h => by simp at h)
        have hgv5 := hgv4.same (ho45.same []) (fun b _ h => by simp at h)
        have hd5 : s5.get (s4.size + 15) = some ⟨[], .dead⟩ := by subst e5; exact gnone (by decide)
        have hat := hga5.irow
        have hal : (nodeL (nN + mN - 2) mN (nN - 2) mN.toNat).length = mN.toNat := by simp [nodeL]
        clear e5
        refine Wd.q rfl rfl rfl (Qk.fa rfl fd24_1) ?_
        refine Wd.r rfl rfl rfl (Rk.cell rfl sh22 (by first | assumption | repeat (first | exact gnew | exact gsetn gnew | assumption | exact gsetn hd5 | refine gpush ?_ | refine gset ?_ (by simp; omega) )) (by simp) rfl) rfl ?_
        refine Wd.q rfl rfl rfl (Qk.move rfl) ?_
        refine Wd.q rfl rfl rfl (Qk.fa rfl fd47_0) ?_
        refine Wd.r rfl rfl rfl (Rk.cell rfl sh3 (by first | assumption | repeat (first | exact gnew | exact gsetn gnew | assumption | exact gsetn hd5 | refine gpush ?_ | refine gset ?_ (by simp; omega) )) (by simp) rfl) rfl ?_
        refine Wd.q rfl rfl rfl (Qk.at rfl rfl ar28 sl28 hat (by constructor <;> omega)) ?_
        refine Wd.r rfl rfl rfl (Rk.intR rfl sh3 hat (by omega)) rfl ?_
        refine Wd.q rfl rfl rfl (Qk.move rfl) ?_
        refine Wd.q rfl rfl rfl (Qk.fa rfl fd47_1) ?_
        refine Wd.r rfl rfl rfl (Rk.cell rfl sh3 (by first | assumption | repeat (first | exact gnew | exact gsetn gnew | assumption | exact gsetn hd5 | refine gpush ?_ | refine gset ?_ (by simp; omega) )) (by simp) rfl) rfl ?_
        refine Wd.q rfl rfl rfl (Qk.at rfl rfl ar28 sl28 hat (by constructor <;> omega)) ?_
        refine Wd.r rfl rfl rfl (Rk.intR rfl sh3 hat (by omega)) rfl ?_
        refine Wd.q rfl rfl rfl (Qk.fa rfl fd47_2) ?_
        refine Wd.r rfl rfl rfl (Rk.cell rfl sh3 (by first | assumption | repeat (first | exact gnew | exact gsetn gnew | assumption | exact gsetn hd5 | refine gpush ?_ | refine gset ?_ (by simp; omega) )) (by simp) rfl) rfl ?_
        refine Wd.q rfl rfl rfl (Qk.build rfl build47) ?_
        refine Wd.f rfl rfl rfl (Fk.one rfl rfl sl22 ze47 rfl rfl rfl (by decide)) ?_
        refine Wd.store' fun s6 e6 => ?_
        have ho46 : Old s4 s6 := by subst e6; exact ho45.gset (by omega)
        have hF6 : BF s s2.size nN mN nv mv s6 := hF4.same (ho46.same []) (fun x hx => by simp at hx)
        have hb6 := ho46.get hb4
        have hga6 := hga4.same (ho46.same []) (fun b _ h => by simp at h)
        have hgv6 := hgv4.same (ho46.same []) (fun b _ h => by simp at h)
        have hw6 : s6.cells (s4.size + 15) 0 (1 * 3) = some (acells (arcAtL (nodeL (nN + mN - 2) mN (nN - 2) mN.toNat) (arcAt ml i))) := by
          have hget : s6.get (s4.size + 15) = some ⟨acells (arcAtL (nodeL (nN + mN - 2) mN (nN - 2) mN.toNat) (arcAt ml i)), .rw⟩ := by subst e6; exact gsetn hd5
          simp [St.cells, hget, acells]
        have hlen : (nl.map (arcOf (nN + mN - 2) nN 0) ++ (ml.take i).map (arcAtL (nodeL (nN + mN - 2) mN (nN - 2) mN.toNat))).length ≤ 400 := by simp; omega
        obtain ⟨v7, t7, b7, hap, hg7, hb7', hsame⟩ := append_grew ap22 (cap2 := 1) (sp := none) hgv6 hF6.size (by decide) (by omega) hw6 rfl rfl
        obtain ⟨hc7, hs7, hi7⟩ := hg7.sc
        have hmo : ∀ x ∈ bo.toList, s2.size ≤ x := fun x hx => by
          cases bo with
          | none => simp at hx
          | some b => simp at hx; subst hx; exact hgv6.lt.2
        have hF7 : BF s s2.size nN mN nv mv t7 := hF6.same hsame (fun x hx => by have := hmo x hx; omega)
        have hb7 := hsame.get hb6 (fun hx => by have := hmo _ hx; omega)
        have hga7 := hga6.same hsame (fun b e hx => by
          cases bo with
          | none => simp at hx
          | some b' => simp at hx; subst hx; exact hdis b rfl e)
        have hl7 := hg7.lt
        have hdis7 : ∀ b, some b7 = some b → ba ≠ some b := fun b e e2 => by
          cases e
          rcases hb7' with h | h
          · exact hdis b7 h.symm e2
          · subst e2; have := hga6.lt; omega
        refine Wd.h rfl rfl rfl (Hk.append rfl rfl rfl rfl (by assumption)) rfl rfl ?_
        refine Wd.q rfl rfl rfl (Qk.fa rfl fd24_1) ?_
        refine Wd.h rfl rfl rfl (Hk.cell rfl rfl sh22 (by first | assumption | repeat (first | exact gnew | exact gsetn gnew | assumption | exact gsetn hd5 | refine gpush ?_ | refine gset ?_ (by simp; omega) )) (by first | exact Nat.le_of_ble_eq_true rfl | simp) (by first | rfl | assumption) (by first | rfl | assumption)) rfl rfl ?_
        refine Wd.next ?_
        refine Wc.store fun s7 e7 => ?_
        have hb8 : s7.get s1.size = some ⟨[.int .i64 (nN + mN - 2), v7], .rw⟩ := by subst e7; exact gsetn hb7
        have hF8 : BF s s2.size nN mN nv mv s7 := by subst e7; exact hF7.set (by omega)
        have hga8 : Grew s7 s2.size av 1 (nodeL (nN + mN - 2) mN (nN - 2) mN.toNat).length (ic (nodeL (nN + mN - 2) mN (nN - 2) mN.toNat)) ba := by subst e7; exact hga7.keep fun b e => by subst e; have := hga7.lt; rw [St.get_set_other _ _ _ _ (by omega)]
        refine Wc.thence (fun _ _ => rfl) ?_
        refine Wc.region ?_
        refine Wk.q rfl rfl rfl (Qk.add rfl rfl (by omega)) ?_
        refine Wk.q rfl rfl rfl (Qk.move rfl) ?_
        refine Wk.next ?_
        refine Wc.finish fun fr hf => ?_
        have hlist : nl.map (arcOf (nN + mN - 2) nN 0) ++ (ml.take (i + 1)).map (arcAtL (nodeL (nN + mN - 2) mN (nN - 2) mN.toNat)) = (nl.map (arcOf (nN + mN - 2) nN 0) ++ (ml.take i).map (arcAtL (nodeL (nN + mN - 2) mN (nN - 2) mN.toNat))) ++ [arcAtL (nodeL (nN + mN - 2) mN (nN - 2) mN.toNat) (arcAt ml i)] := by
          have e : ml[i] = arcAt ml i := by simp [arcAt, List.getD, hlt]
          rw [List.take_succ_eq_append_getElem hlt, List.map_append, List.append_assoc, e]
          rfl
        have hg8 : Grew s7 s2.size v7 3 (nl.map (arcOf (nN + mN - 2) nN 0) ++ (ml.take (i + 1)).map (arcAtL (nodeL (nN + mN - 2) mN (nN - 2) mN.toNat))).length (acs (nl.map (arcOf (nN + mN - 2) nN 0) ++ (ml.take (i + 1)).map (arcAtL (nodeL (nN + mN - 2) mN (nN - 2) mN.toNat)))) (some b7) := by
          rw [hlist, acs_app, List.length_append]
          refine Grew.keep (s := t7) ?_ fun b e => by cases e; subst e7; rw [St.get_set_other _ _ _ _ (by omega)]
          simpa [acs] using hg7
        exact ⟨(i + 1, v7, some b7, s7), ⟨hlt, hF8, hb8, hga8, hg8, hdis7⟩, by dsimp only; omega, rfl, hf.less ⟨rfl, rfl, rfl, rfl, rfl, rfl, trivial⟩⟩
    · -- t43 = True
      have hlt : i < nl.length := by
        have : (i : Int) < (nl.length : Int) := of_decide_eq_true h43
        omega
      obtain ⟨a1, a2, a3, a4, a5, a6, a7⟩ := hnok.arc i hlt
      have hold := hF.old
      refine Wk.next ?_
      refine Wc.assoc ?_
      refine Wc.condT rfl ?_
      refine Wc.skip ?_
      refine Wc.assoc ?_
      refine Wc.block ?_
      refine Wc.assoc ?_
      refine Wc.region ?_
      refine Wk.q rfl rfl rfl (Qk.at rfl rfl ar22 sl22 (hn.old (by assumption)) (by constructor <;> omega)) ?_
      refine Wk.r rfl rfl rfl (Rk.arc rfl sh47 (hn.old (by assumption)) (i := i) (by omega)) ?_
      refine Wk.f rfl rfl rfl (Fk.alloc ze47) ?_
      refine Wk.h rfl rfl rfl (Hk.arc rfl rfl sh47 (by first | assumption | repeat (first | exact gnew | exact gsetn gnew | assumption | exact gsetn hd5 | refine gpush ?_ | refine gset ?_ (by simp; omega) )) rfl) ?_
      refine Wk.next ?_
      refine Wc.store fun s8 e8 => ?_
      have hF4 : BF s s2.size nN mN nv mv s8 := by subst e8; exact (hF.push).set (by have := hF.size; omega)
      have hb4 : s8.get s1.size = some ⟨[.int .i64 (nN + mN - 2), v6], .rw⟩ := by subst e8; exact gset (gpush hb) (Nat.ne_of_gt (St.get_lt hb))
      have ha4 : s8.get sa.size = some ⟨acells (arcAt nl i), .rw⟩ := by subst e8; exact gsetn gnew
      have hga4 : Grew s8 s2.size av 1 (nodeL (nN + mN - 2) mN (nN - 2) mN.toNat).length (ic (nodeL (nN + mN - 2) mN (nN - 2) mN.toNat)) ba := by subst e8; exact hga.keep fun b e => by subst e; have := hga.lt; rw [St.get_set_other _ _ _ _ (by omega), St.get_push_lt _ _ _ (by omega)]
      have hgv4 : Grew s8 s2.size v6 3 ((nl.take i).map (arcOf (nN + mN - 2) nN 0)).length (acs ((nl.take i).map (arcOf (nN + mN - 2) nN 0))) bo := by subst e8; exact hgv.keep fun b e => by subst e; have := hgv.lt; rw [St.get_set_other _ _ _ _ (by omega), St.get_push_lt _ _ _ (by omega)]
      clear e8
      refine Wc.drawE ?_
      refine We.store' fun s9 e9 => ?_
      have ho45 : Old s8 s9 := by subst e9; exact Old.reserve _ _
      have hF5 : BF s s2.size nN mN nv mv s9 := hF4.same (ho45.same []) (fun x hx => by simp at hx)
      have hn5 := hF5.n
      have hb5 := ho45.get hb4
      have ha5 := ho45.get ha4
      have hd5 : s9.get (s8.size + 17) = some ⟨[], .dead⟩ := by subst e9; exact gnone (by decide)
      have hv6s : same v6 v6 = true := same_row hgv4.arow
      clear e9
      refine We.q rfl rfl rfl (Qk.fa rfl fd24_1) ?_
      refine We.cell rfl rfl rfl rfl rfl sh22 (by first | assumption | repeat (first | exact gnew | exact gsetn gnew | assumption | exact gsetn hd5 | refine gpush ?_ | refine gset ?_ (by simp; omega) )) (by simp) rfl (by first | assumption | simp [same, ssame]) (by repeat' (first | exact trivial | exact Or.inl rfl | apply And.intro | (refine Or.inr ?_; assumption) | (refine Or.inr ⟨_, _, (by first | assumption | repeat (first | exact gnew | exact gsetn gnew | assumption | exact gsetn hd9 | refine gpush ?_ | refine gset ?_ (by simp; omega) )), (by simp), rfl⟩))) ?_
      refine We.q rfl rfl rfl (Qk.move rfl) ?_
      refine We.q rfl rfl rfl (Qk.fa rfl fd47_0) ?_
      refine We.cell rfl rfl rfl rfl rfl sh3 (by first | assumption | repeat (first | exact gnew | exact gsetn gnew | assumption | exact gsetn hd5 | refine gpush ?_ | refine gset ?_ (by simp; omega) )) (by simp) rfl (by first | assumption | simp [same, ssame]) (by repeat' (first | exact trivial | exact Or.inl rfl | apply And.intro | (refine Or.inr ?_; assumption) | (refine Or.inr ⟨_, _, (by first | assumption | repeat (first | exact gnew | exact gsetn gnew | assumption | exact gsetn hd9 | refine gpush ?_ | refine gset ?_ (by simp; omega) )), (by simp), rfl⟩))) ?_
      refine We.q rfl rfl rfl (Qk.fa rfl fd24_0) ?_
      refine We.cell rfl rfl rfl rfl rfl sh3 (by first | assumption | repeat (first | exact gnew | exact gsetn gnew | assumption | exact gsetn hd5 | refine gpush ?_ | refine gset ?_ (by simp; omega) )) (by simp) rfl (by first | assumption | simp [same, ssame]) (by repeat' (first | exact trivial | exact Or.inl rfl | apply And.intro | (refine Or.inr ?_; assumption) | (refine Or.inr ⟨_, _, (by first | assumption | repeat (first | exact gnew | exact gsetn gnew | assumption | exact gsetn hd9 | refine gpush ?_ | refine gset ?_ (by simp; omega) )), (by simp), rfl⟩))) ?_
      refine We.c rfl rfl rfl (Ck.call rfl rfl) (by repeat' (first | exact trivial | exact Or.inl rfl | apply And.intro | (refine Or.inr ?_; assumption) | (refine Or.inr ⟨_, _, (by first | assumption | repeat (first | exact gnew | exact gsetn gnew | assumption | exact gsetn hd5 | refine gpush ?_ | refine gset ?_ (by simp; omega) )), (by simp), rfl⟩))) ((c17 hb5 ⟨by omega, by omega⟩ ⟨by omega, by omega⟩ ⟨by omega, by omega⟩ ⟨by omega, by omega⟩).mono ?_)
      rintro _ _ ⟨rfl, rfl⟩
      refine ⟨(by repeat' (first | exact trivial | exact Or.inl rfl | apply And.intro | (refine Or.inr ?_; assumption) | (refine Or.inr ⟨_, _, (by first | assumption | repeat (first | exact gnew | exact gsetn gnew | assumption | exact gsetn hd5 | refine gpush ?_ | refine gset ?_ (by simp; omega) )), (by simp), rfl⟩))), ?_⟩
      refine We.q rfl rfl rfl (Qk.move rfl) ?_
      refine We.q rfl rfl rfl (Qk.fa rfl fd47_1) ?_
      refine We.cell rfl rfl rfl rfl rfl sh3 (by first | assumption | repeat (first | exact gnew | exact gsetn gnew | assumption | exact gsetn hd5 | refine gpush ?_ | refine gset ?_ (by simp; omega) )) (by simp) rfl (by first | assumption | simp [same, ssame]) (by repeat' (first | exact trivial | exact Or.inl rfl | apply And.intro | (refine Or.inr ?_; assumption) | (refine Or.inr ⟨_, _, (by first | assumption | repeat (first | exact gnew | exact gsetn gnew | assumption | exact gsetn hd9 | refine gpush ?_ | refine gset ?_ (by simp; omega) )), (by simp), rfl⟩))) ?_
      refine We.q rfl rfl rfl (Qk.fa rfl fd24_0) ?_
      refine We.cell rfl rfl rfl rfl rfl sh3 (by first | assumption | repeat (first | exact gnew | exact gsetn gnew | assumption | exact gsetn hd5 | refine gpush ?_ | refine gset ?_ (by simp; omega) )) (by simp) rfl (by first | assumption | simp [same, ssame]) (by repeat' (first | exact trivial | exact Or.inl rfl | apply And.intro | (refine Or.inr ?_; assumption) | (refine Or.inr ⟨_, _, (by first | assumption | repeat (first | exact gnew | exact gsetn gnew | assumption | exact gsetn hd9 | refine gpush ?_ | refine gset ?_ (by simp; omega) )), (by simp), rfl⟩))) ?_
      refine We.c rfl rfl rfl (Ck.call rfl rfl) (by repeat' (first | exact trivial | exact Or.inl rfl | apply And.intro | (refine Or.inr ?_; assumption) | (refine Or.inr ⟨_, _, (by first | assumption | repeat (first | exact gnew | exact gsetn gnew | assumption | exact gsetn hd5 | refine gpush ?_ | refine gset ?_ (by simp; omega) )), (by simp), rfl⟩))) ((c17 hb5 ⟨by omega, by omega⟩ ⟨by omega, by omega⟩ ⟨by omega, by omega⟩ ⟨by omega, by omega⟩).mono ?_)
      rintro _ _ ⟨rfl, rfl⟩
      refine ⟨(by repeat' (first | exact trivial | exact Or.inl rfl | apply And.intro | (refine Or.inr ?_; assumption) | (refine Or.inr ⟨_, _, (by first | assumption | repeat (first | exact gnew | exact gsetn gnew | assumption | exact gsetn hd5 | refine gpush ?_ | refine gset ?_ (by simp; omega) )), (by simp), rfl⟩))), ?_⟩
      refine We.q rfl rfl rfl (Qk.fa rfl fd47_2) ?_
      refine We.cell rfl rfl rfl rfl rfl sh3 (by first | assumption | repeat (first | exact gnew | exact gsetn gnew | assumption | exact gsetn hd5 | refine gpush ?_ | refine gset ?_ (by simp; omega) )) (by simp) rfl (by first | assumption | simp [same, ssame]) (by repeat' (first | exact trivial | exact Or.inl rfl | apply And.intro | (refine Or.inr ?_; assumption) | (refine Or.inr ⟨_, _, (by first | assumption | repeat (first | exact gnew | exact gsetn gnew | assumption | exact gsetn hd9 | refine gpush ?_ | refine gset ?_ (by simp; omega) )), (by simp), rfl⟩))) ?_
      refine We.q rfl rfl rfl (Qk.build rfl build47) ?_
      refine We.f rfl rfl rfl (Fk.one rfl rfl sl22 ze47 rfl rfl rfl (by decide)) ?_
      refine We.store' fun s10 e10 => ?_
      have ho46 : Old s8 s10 := by subst e10; exact ho45.gset (by omega)
      have hF6 : BF s s2.size nN mN nv mv s10 := hF4.same (ho46.same []) (fun x hx => by simp at hx)
      have hb6 := ho46.get hb4
      have hga6 := hga4.same (ho46.same []) (fun b _ h => by simp at h)
      have hgv6 := hgv4.same (ho46.same []) (fun b _ h => by simp at h)
      have hw6 : s10.cells (s8.size + 17) 0 (1 * 3) = some (acells (arcOf (nN + mN - 2) nN 0 (arcAt nl i))) := by
        have hget : s10.get (s8.size + 17) = some ⟨acells (arcOf (nN + mN - 2) nN 0 (arcAt nl i)), .rw⟩ := by subst e10; exact gsetn hd5
        simp [St.cells, hget, acells]
      have hlen : ((nl.take i).map (arcOf (nN + mN - 2) nN 0)).length ≤ 400 := by simp; omega
      obtain ⟨v7, t7, b7, hap, hg7, hb7', hsame⟩ := append_grew ap22 (cap2 := 1) (sp := none) hgv6 hF6.size (by decide) (by omega) hw6 rfl rfl
      obtain ⟨hc7, hs7, hi7⟩ := hg7.sc
      have hmo : ∀ x ∈ bo.toList, s2.size ≤ x := fun x hx => by
        cases bo with
        | none => simp at hx
        | some b => simp at hx; subst hx; exact hgv6.lt.2
      have hF7 : BF s s2.size nN mN nv mv t7 := hF6.same hsame (fun x hx => by have := hmo x hx; omega)
      have hb7 := hsame.get hb6 (fun hx => by have := hmo _ hx; omega)
      have hga7 := hga6.same hsame (fun b e hx => by
        cases bo with
        | none => simp at hx
        | some b' => simp at hx; subst hx; exact hdis b rfl e)
      have hl7 := hg7.lt
      have hdis7 : ∀ b, some b7 = some b → ba ≠ some b := fun b e e2 => by
        cases e
        rcases hb7' with h | h
        · exact hdis b7 h.symm e2
        · subst e2; have := hga6.lt; omega
      refine We.h rfl rfl rfl (Hk.append rfl rfl rfl rfl (by assumption)) (by repeat' (first | exact trivial | exact Or.inl rfl | apply And.intro | (refine Or.inr ?_; assumption) | (refine Or.inr ⟨_, _, (by first | assumption | repeat (first | exact gnew | exact gsetn gnew | assumption | exact gsetn hd5 | refine gpush ?_ | refine gset ?_ (by simp; omega) )), (by simp), rfl⟩))) (by repeat' (first | exact trivial | exact Or.inl rfl | apply And.intro | (refine Or.inr ?_; assumption) | (refine Or.inr ⟨_, _, (by first | assumption | repeat (first | exact gnew | exact gsetn gnew | assumption | exact gsetn hd9 | refine gpush ?_ | refine gset ?_ (by simp; omega) )), (by simp), rfl⟩))) ?_
      refine We.q rfl rfl rfl (Qk.fa rfl fd24_1) ?_
      refine We.h rfl rfl rfl (Hk.cell rfl rfl sh22 (by first | assumption | repeat (first | exact gnew | exact gsetn gnew | assumption | exact gsetn hd5 | refine gpush ?_ | refine gset ?_ (by simp; omega) )) (by first | exact Nat.le_of_ble_eq_true rfl | simp) (by first | rfl | assumption) (by first | rfl | assumption)) (by repeat' (first | exact trivial | exact Or.inl rfl | apply And.intro | (refine Or.inr ?_; assumption) | (refine Or.inr ⟨_, _, (by first | assumption | repeat (first | exact gnew | exact gsetn gnew | assumption | exact gsetn hd9 | refine gpush ?_ | refine gset ?_ (by simp; omega) )), (by simp), rfl⟩))) (by repeat' (first | exact trivial | exact Or.inl rfl | apply And.intro | (refine Or.inr ?_; assumption) | (refine Or.inr ⟨_, _, (by first | assumption | repeat (first | exact gnew | exact gsetn gnew | assumption | exact gsetn hd9 | refine gpush ?_ | refine gset ?_ (by simp; omega) )), (by simp), rfl⟩))) ?_
      refine We.next ?_
      refine Wc.store fun s11 e11 => ?_
      have hb8 : s11.get s1.size = some ⟨[.int .i64 (nN + mN - 2), v7], .rw⟩ := by subst e11; exact gsetn hb7
      have hF8 : BF s s2.size nN mN nv mv s11 := by subst e11; exact hF7.set (by omega)
      have hga8 : Grew s11 s2.size av 1 (nodeL (nN + mN - 2) mN (nN - 2) mN.toNat).length (ic (nodeL (nN + mN - 2) mN (nN - 2) mN.toNat)) ba := by subst e11; exact hga7.keep fun b e => by subst e; have := hga7.lt; rw [St.get_set_other _ _ _ _ (by omega)]
      refine Wc.thence (fun _ _ => rfl) ?_
      refine Wc.region ?_
      refine Wk.q rfl rfl rfl (Qk.add rfl rfl (by omega)) ?_
      refine Wk.q rfl rfl rfl (Qk.move rfl) ?_
      refine Wk.next ?_
      refine Wc.finish fun fr hf => ?_
      have hlist : (nl.take (i + 1)).map (arcOf (nN + mN - 2) nN 0) = (nl.take i).map (arcOf (nN + mN - 2) nN 0) ++ [arcOf (nN + mN - 2) nN 0 (arcAt nl i)] := by
        have e : nl[i] = arcAt nl i := by simp [arcAt, List.getD, hlt]
        rw [List.take_succ_eq_append_getElem hlt, List.map_append, e]
        rfl
      have hg8 : Grew s11 s2.size v7 3 ((nl.take (i + 1)).map (arcOf (nN + mN - 2) nN 0)).length (acs ((nl.take (i + 1)).map (arcOf (nN + mN - 2) nN 0))) (some b7) := by
        rw [hlist, acs_app, List.length_append]
        refine Grew.keep (s := t7) ?_ fun b e => by cases e; subst e11; rw [St.get_set_other _ _ _ _ (by omega)]
        simpa [acs] using hg7
      exact ⟨(i + 1, v7, some b7, s11), ⟨hlt, hF8, hb8, hga8, hg8, hdis7⟩, by dsimp only; omega, rfl, hf.less ⟨rfl, rfl, rfl, rfl, rfl, rfl, rfl, rfl, rfl, trivial⟩⟩
  · -- t25 = True
    have hult : (u : Int) < mN := of_decide_eq_true h25
    refine Wk.next ?_
    refine Wc.condT rfl ?_
    refine Wc.skip ?_
    refine Wc.assoc ?_
    refine Wc.block ?_
    refine Wc.region ?_
    refine Wk.q rfl rfl rfl (Qk.move rfl) ?_
    refine Wk.q rfl rfl rfl (Qk.move rfl) ?_
    refine Wk.q rfl rfl rfl (Qk.move rfl) ?_
    refine Wk.q rfl rfl rfl (Qk.fa rfl fd24_0) ?_
    refine Wk.r rfl rfl rfl (Rk.cell rfl sh3 (by first | assumption | repeat (first | exact gnew | exact gsetn gnew | assumption | exact gsetn hd5 | refine gpush ?_ | refine gset ?_ (by simp; omega) )) (by simp) rfl) ?_
    refine Wk.q rfl rfl rfl (Qk.fa rfl fd24_0) ?_
    refine Wk.r rfl rfl rfl (Rk.cell rfl sh3 (by first | assumption | repeat (first | exact gnew | exact gsetn gnew | assumption | exact gsetn hd5 | refine gpush ?_ | refine gset ?_ (by simp; omega) )) (by simp) rfl) ?_
    refine Wk.q rfl rfl rfl (Qk.sub rfl rfl (by omega)) ?_
    refine Wk.c rfl rfl rfl (Ck.call rfl rfl) ((c17 hb ⟨by omega, by omega⟩ ⟨by omega, by omega⟩ ⟨by omega, by omega⟩ ⟨by omega, by omega⟩).mono ?_)
    rintro _ sb ⟨rfl, e⟩
    have e' := e.symm
    subst e'
    refine Wk.f rfl rfl rfl (Fk.one rfl rfl sl28 ze3 rfl rfl rfl (by decide)) ?_
    refine Wk.store' fun s12 e12 => ?_
    have hF6 : BF s s2.size nN mN nv mv s12 := by subst e12; exact hF.push
    have hb6 : s12.get s1.size = some ⟨[.int .i64 (nN + mN - 2), .slice none 0 0], .rw⟩ := by subst e12; exact gpush hb
    have hga6 : Grew s12 s2.size av 1 (nodeL (nN + mN - 2) mN (nN - 2) u).length (ic (nodeL (nN + mN - 2) mN (nN - 2) u)) ba := by subst e12; exact hga.keep fun b e => by subst e; have := hga.lt; rw [St.get_push_lt _ _ _ (by omega)]
    have hw6 : s12.cells sa.size 0 (1 * 1) = some [.int .i64 (nodeOf (nN + mN - 2) mN (nN - 2) u)] := by subst e12; simp [St.cells]; exact ⟨Nat.le_refl _, rfl⟩
    have hlen : (nodeL (nN + mN - 2) mN (nN - 2) u).length = u := by simp [nodeL]
    obtain ⟨v7, t7, b7, hap, hg7, hb7', hsame⟩ := append_grew ap28 (cap2 := 1) (sp := none) hga6 hF6.size (by decide) (by omega) hw6 rfl rfl
    have hmo : ∀ x ∈ ba.toList, s2.size ≤ x := fun x hx => by
      cases ba with
      | none => simp at hx
      | some b => simp at hx; subst hx; exact hga6.lt.2
    have hF7 : BF s s2.size nN mN nv mv t7 := hF6.same hsame (fun x hx => by have := hmo x hx; omega)
    have hb7 := hsame.get hb6 (fun hx => by have := hmo _ hx; omega)
    refine Wk.h rfl rfl rfl (Hk.append rfl rfl rfl rfl (by assumption)) ?_
    refine Wk.q rfl rfl rfl (Qk.assign rfl) ?_
    refine Wk.next ?_
    refine Wc.store fun s13 e13 => ?_
    refine Wc.thence (fun _ _ => rfl) ?_
    refine Wc.region ?_
    refine Wk.q rfl rfl rfl (Qk.move rfl) ?_
    refine Wk.q rfl rfl rfl (Qk.add rfl rfl (by omega)) ?_
    refine Wk.q rfl rfl rfl (Qk.assign rfl) ?_
    refine Wk.next ?_
    refine Wc.finish fun fr hf => ?_
    subst e13
    have hlist : nodeL (nN + mN - 2) mN (nN - 2) (u + 1) = nodeL (nN + mN - 2) mN (nN - 2) u ++ [nodeOf (nN + mN - 2) mN (nN - 2) u] := by simp [nodeL, List.range_succ]
    refine ⟨(u + 1, v7, some b7, s13), ⟨by dsimp only; omega, hF7, hb7, ?_⟩, by dsimp only; omega, rfl, hf.less ⟨rfl, rfl, rfl, rfl, rfl, rfl, rfl, trivial⟩⟩
    dsimp only
    rw [hlist, List.length_append]
    simpa [ic] using hg7
end Go.Proofs.Ytgkmpidihgbkdaa
