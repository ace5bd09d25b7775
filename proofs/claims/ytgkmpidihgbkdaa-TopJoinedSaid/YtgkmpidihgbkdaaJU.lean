/- What proves itself; rows that are the same, that are joined, that are copied. -/
import Derived.Test.YtgkmpidihgbkdaaJM
import Derived.Test.YtgkmpidihgbkdaaJS
namespace Go.Proofs.Ytgkmpidihgbkdaa
open Go.Abs
variable {K : Known}

set_option maxRecDepth 100000 in
theorem c8 (hK : Late K) {v : Value} {N : Int} {l : List Arc} {s : St} (hok : NetOk N l) (hv : ARow s v l) :
    Ev Try.prog K (.func (.func 8) #[] #[]) [.agg #[.int .i64 N, v]] s fun r s' => ∃ bx bo xs out, r = .tuple #[.slice (some ⟨bx, 0, none⟩) l.length l.length, .slice (some ⟨bo, 0, none⟩) N.toNat N.toNat, .int .i64 (val l (am xs)), .bool true] ∧ s.size ≤ bx ∧ s.size ≤ bo ∧
      s'.get bx = some ⟨ic xs, .rw⟩ ∧ s'.get bo = some ⟨bc out, .rw⟩ ∧ xs.length = l.length ∧ Gr N l (am xs) ∧ IsLeast N l (am xs) out ∧ Old s s' := by
  refine Ev.enterK (hK.none (by decide) _) Try.func8 rfl rfl (Nat.le_of_ble_eq_true rfl) ?_
  refine Wc.tail ?_
  refine Wc.assoc ?_
  refine Wc.region ?_
  refine Wk.f rfl rfl rfl (Fk.box rfl rfl) ?_
  refine Wk.q rfl rfl rfl (Qk.assign rfl) ?_
  refine Wk.q rfl rfl rfl (Qk.assign rfl) ?_
  refine Wk.q rfl rfl rfl (Qk.assign rfl) ?_
  refine Wk.q rfl rfl rfl (Qk.assign rfl) ?_
  refine Wk.next ?_
  refine Wc.store fun s1 e1 => ?_
  have ho1 : Old s s1 := by subst e1; exact Old.push _ _
  have hg1 : s1.get s.size = some ⟨[.int .i64 N, v], .rw⟩ := by subst e1; exact gnew
  refine Wc.assoc ?_
  refine Wc.region ?_
  refine Wk.r rfl rfl rfl (Rk.cells rfl sh24 (by first | assumption | repeat (first | exact gnew | exact gsetn gnew | assumption | refine gpush ?_ | refine gset ?_ (by simp; omega) )) (by simp) (by simp)) ?_
  refine Wk.c rfl rfl rfl (Ck.call rfl rfl) ((c13 hK hok (hv.old ho1)).mono ?_)
  rintro _ s2 ⟨bx, xs, rfl, hbx, hX2, hxl, hgr, ho12⟩
  have ho2 : Old s s2 := ho1.trans ho12
  have hg2 := ho12.get hg1
  refine Wk.q rfl rfl rfl (Qk.move rfl) ?_
  refine Wk.q rfl rfl rfl (Qk.extract rfl rfl) ?_
  refine Wk.q rfl rfl rfl (Qk.extract rfl rfl) ?_
  refine Wk.q rfl rfl rfl (Qk.assign rfl) ?_
  refine Wk.q rfl rfl rfl (Qk.assign rfl) ?_
  refine Wk.next ?_
  refine Wc.assoc ?_
  refine Wc.region ?_
  refine Wk.r rfl rfl rfl (Rk.cells rfl sh24 (by first | assumption | repeat (first | exact gnew | exact gsetn gnew | assumption | refine gpush ?_ | refine gset ?_ (by simp; omega) )) (by simp) (by simp)) ?_
  refine Wk.c rfl rfl rfl (Ck.call rfl rfl) ((c18 hK hok (hv.old ho2)).mono ?_)
  rintro _ s3 ⟨bo, out, xs2, rfl, hbo, hO3, hxl2, hgr2, hle2, ho23⟩
  have ho3 : Old s s3 := ho2.trans ho23
  have hg3 := ho23.get hg2
  have hX3 := ho23.get hX2
  have hle : IsLeast N l (am xs) out := hle2.congr (gr_unique hok hgr2 hgr)
  obtain ⟨hside, hcut⟩ := gr_least hok hgr hle
  have hxr : IRow s3 (.slice (some ⟨bx, 0, none⟩) l.length l.length) xs := by rw [← hxl]; exact IRow.of_get hX3 (by simp) (Nat.le_refl _)
  have hor : BRow s3 (.slice (some ⟨bo, 0, none⟩) N.toNat N.toNat) out := by rw [← hle.len]; exact BRow.of_get hO3 (by simp) (Nat.le_refl _)
  refine Wk.q rfl rfl rfl (Qk.move rfl) ?_
  refine Wk.q rfl rfl rfl (Qk.extract rfl rfl) ?_
  refine Wk.q rfl rfl rfl (Qk.extract rfl rfl) ?_
  refine Wk.q rfl rfl rfl (Qk.assign rfl) ?_
  refine Wk.q rfl rfl rfl (Qk.assign rfl) ?_
  refine Wk.next ?_
  refine Wc.assoc ?_
  refine Wc.region ?_
  refine Wk.r rfl rfl rfl (Rk.cells rfl sh24 (by first | assumption | repeat (first | exact gnew | exact gsetn gnew | assumption | refine gpush ?_ | refine gset ?_ (by simp; omega) )) (by simp) (by simp)) ?_
  refine Wk.q rfl rfl rfl (Qk.move rfl) ?_
  refine Wk.c rfl rfl rfl (Ck.call rfl rfl) ((c15 hK hok (hv.old ho3) hxr hxl hgr.flow).mono ?_)
  rintro _ s4 ⟨rfl, ho34⟩
  have ho4 : Old s s4 := ho3.trans ho34
  have hg4 := ho34.get hg3
  refine Wk.q rfl rfl rfl (Qk.move rfl) ?_
  refine Wk.q rfl rfl rfl (Qk.extract rfl rfl) ?_
  refine Wk.q rfl rfl rfl (Qk.extract rfl rfl) ?_
  refine Wk.q rfl rfl rfl (Qk.assign rfl) ?_
  refine Wk.q rfl rfl rfl (Qk.assign rfl) ?_
  refine Wk.next ?_
  refine Wc.assoc ?_
  refine Wc.region ?_
  refine Wk.r rfl rfl rfl (Rk.cells rfl sh24 (by first | assumption | repeat (first | exact gnew | exact gsetn gnew | assumption | refine gpush ?_ | refine gset ?_ (by simp; omega) )) (by simp) (by simp)) ?_
  refine Wk.q rfl rfl rfl (Qk.move rfl) ?_
  refine Wk.c rfl rfl rfl (Ck.call rfl rfl) ((c19 hK hok (hv.old ho4) (hor.old ho34) hle.len hside).mono ?_)
  rintro _ s5 ⟨rfl, ho45⟩
  have ho5 : Old s s5 := ho4.trans ho45
  have ho35 := ho34.trans ho45
  have hg5 := ho45.get hg4
  refine Wk.q rfl rfl rfl (Qk.move rfl) ?_
  refine Wk.q rfl rfl rfl (Qk.extract rfl rfl) ?_
  refine Wk.q rfl rfl rfl (Qk.extract rfl rfl) ?_
  refine Wk.q rfl rfl rfl (Qk.assign rfl) ?_
  refine Wk.q rfl rfl rfl (Qk.assign rfl) ?_
  refine Wk.next ?_
  refine Wc.assoc ?_
  refine Wc.region ?_
  refine Wk.r rfl rfl rfl (Rk.cells rfl sh24 (by first | assumption | repeat (first | exact gnew | exact gsetn gnew | assumption | refine gpush ?_ | refine gset ?_ (by simp; omega) )) (by simp) (by simp)) ?_
  refine Wk.q rfl rfl rfl (Qk.move rfl) ?_
  refine Wk.q rfl rfl rfl (Qk.move rfl) ?_
  refine Wk.c rfl rfl rfl (Ck.call rfl rfl) ((c20 hK hok (hv.old ho5) (hxr.old ho35) hxl hgr.flow (hor.old ho35) hle.len hside).mono ?_)
  rintro _ s6 ⟨rfl, ho56⟩
  have ho36 := ho35.trans ho56
  refine Wk.q rfl rfl rfl (Qk.move rfl) ?_
  refine Wk.b rfl rfl rfl (Qk.extract rfl rfl) fun b h40 => ?_
  obtain rfl : b = true := by rw [← h40, hcut]; simp -- t40
  refine Wk.q rfl rfl rfl (Qk.extract rfl rfl) ?_
  refine Wk.q rfl rfl rfl (Qk.assign rfl) ?_
  refine Wk.q rfl rfl rfl (Qk.assign rfl) ?_
  refine Wk.next ?_
  refine Wc.assoc ?_
  refine Wc.region ?_
  refine Wk.q rfl rfl rfl (Qk.move rfl) ?_
  refine Wk.q rfl rfl rfl (Qk.move rfl) ?_
  refine Wk.q rfl rfl rfl (Qk.move rfl) ?_
  refine Wk.q rfl rfl rfl (Qk.move rfl) ?_
  refine Wk.b rfl rfl rfl (Qk.bin rfl rfl rfl) fun b h46 => ?_
  obtain rfl : b = true := by exact h46.symm -- t46
  refine Wk.q rfl rfl rfl (Qk.move rfl) ?_
  refine Wk.q rfl rfl rfl (Qk.move rfl) ?_
  refine Wk.b rfl rfl rfl (Qk.bin rfl rfl rfl) fun b h49 => ?_
  obtain rfl : b = true := by exact h49.symm -- t49
  refine Wk.q rfl rfl rfl (Qk.pickT rfl rfl) ?_
  refine Wk.q rfl rfl rfl (Qk.move rfl) ?_
  refine Wk.q rfl rfl rfl (Qk.move rfl) ?_
  refine Wk.b rfl rfl rfl (Qk.bin rfl rfl rfl) fun b h53 => ?_
  obtain rfl : b = true := by exact h53.symm -- t53
  refine Wk.q rfl rfl rfl (Qk.pickT rfl rfl) ?_
  refine Wk.q rfl rfl rfl (Qk.move rfl) ?_
  refine Wk.q rfl rfl rfl (Qk.move rfl) ?_
  refine Wk.b rfl rfl rfl (Qk.bin rfl rfl rfl) fun b h57 => ?_
  obtain rfl : b = true := by exact h57.symm -- t57
  refine Wk.q rfl rfl rfl (Qk.pickT rfl rfl) ?_
  refine Wk.q rfl rfl rfl (Qk.move rfl) ?_
  refine Wk.q rfl rfl rfl (Qk.move rfl) ?_
  refine Wk.b rfl rfl rfl (Qk.bin rfl rfl rfl) fun b h61 => ?_
  obtain rfl : b = true := by exact h61.symm -- t61
  refine Wk.q rfl rfl rfl (Qk.pickT rfl rfl) ?_
  refine Wk.q rfl rfl rfl (Qk.move rfl) ?_
  refine Wk.q rfl rfl rfl (Qk.move rfl) ?_
  refine Wk.q rfl rfl rfl (Qk.pickT rfl rfl) ?_
  refine Wk.q rfl rfl rfl (Qk.move rfl) ?_
  refine Wk.q rfl rfl rfl (Qk.move rfl) ?_
  refine Wk.q rfl rfl rfl (Qk.move rfl) ?_
  refine Wk.q rfl rfl rfl (Qk.bin rfl rfl rfl) ?_
  refine Wk.q rfl rfl rfl (Qk.pickT rfl rfl) ?_
  refine Wk.q rfl rfl rfl (Qk.assign rfl) ?_
  refine Wk.q rfl rfl rfl (Qk.assign rfl) ?_
  refine Wk.q rfl rfl rfl (Qk.assign rfl) ?_
  refine Wk.q rfl rfl rfl (Qk.assign rfl) ?_
  refine Wk.next ?_
  refine Wc.done'' (fun _ _ => rfl) rfl ?_
  have := ho1.1
  have := ho2.1
  refine ⟨bx, bo, xs, out, ?_, by omega, by omega, ho36.get hX3, ho36.get hO3, hxl, hgr, hle, ho5.trans ho56⟩
  simp only [pack]
  rw [hcut]
  simp

theorem ext_getD {a b : List Int} (h : a.length = b.length) (e : ∀ j, j < a.length → a.getD j 0 = b.getD j 0) : a = b := by
  apply List.ext_getElem h
  intro i h1 h2
  have := e i h1
  simpa [List.getD, h1, h2] using this
theorem eq_of_bne {a b : Int} (h : (a != b) = false) : a = b := by simpa using h

set_option maxRecDepth 100000 in
theorem c9 (hK : Late K) {av bv : Value} {xs ys : List Int} {s : St} (ha : IRow s av xs) (hb : IRow s bv ys) (hal : xs.length < 2 ^ 40) :
    Ev Try.prog K (.func (.func 9) #[] #[]) [av, bv] s fun r s' => r = .bool (decide (xs = ys)) ∧ s' = s := by
  refine Ev.enterK (hK.none (by decide) _) Try.func9 rfl rfl (Nat.le_of_ble_eq_true rfl) ?_
  refine Wc.tail ?_
  refine Wc.assoc ?_
  refine Wc.region ?_
  refine Wk.q rfl rfl rfl (Qk.assign rfl) ?_
  refine Wk.next ?_
  refine Wc.assoc ?_
  refine Wc.assoc ?_
  refine Wc.region ?_
  refine Wk.q rfl rfl rfl (Qk.move rfl) ?_
  refine Wk.q rfl rfl rfl (Qk.lenR rfl rfl rfl ha sl28) ?_
  refine Wk.q rfl rfl rfl (Qk.move rfl) ?_
  refine Wk.q rfl rfl rfl (Qk.lenR rfl rfl rfl hb sl28) ?_
  refine Wk.b rfl rfl rfl (Qk.bin rfl rfl rfl) fun b h10 => ?_
  cases b
  · -- t10 = False
    have hlen : xs.length = ys.length := by
      have h : ((xs.length : Int) != (ys.length : Int)) = false := h10
      have h2 : (xs.length : Int) = ys.length := by simpa using h
      omega
    refine Wk.next ?_
    refine Wc.condF rfl ?_
    refine Wc.skip ?_
    refine Wc.assoc ?_
    refine Wc.assoc ?_
    refine Wc.region ?_
    refine Wk.q rfl rfl rfl (Qk.move rfl) ?_
    refine Wk.q rfl rfl rfl (Qk.lenR rfl rfl rfl ha sl28) ?_
    refine Wk.q rfl rfl rfl (Qk.move rfl) ?_
    refine Wk.next ?_
    refine Wc.block ?_
    refine Wc.loop (σ := Nat) (fun i => i ≤ xs.length ∧ ∀ j, j < i → xs.getD j 0 = ys.getD j 0) (fun i => [(0, av), (1, bv), (12, goInt xs.length), (13, .int .i64 i)]) (fun _ => s) (fun i => xs.length - i) 0 ⟨Nat.zero_le _, fun j hj => absurd hj (Nat.not_lt_zero _)⟩ ⟨rfl, rfl, rfl, rfl, trivial⟩ rfl ?_
    rintro i ⟨hi, heq⟩
    have hos := Old.refl s
    refine Wc.assoc ?_
    refine Wc.region ?_
    refine Wk.b rfl rfl rfl (Qk.bin rfl rfl rfl) fun b h14 => ?_
    cases b
    · -- t14 = False
      refine Wk.next ?_
      refine Wc.assoc ?_
      refine Wc.condF rfl ?_
      refine Wc.jump (fun _ _ => rfl) ?_
      refine Wc.assoc ?_
      refine Wc.region ?_
      refine Wk.q rfl rfl rfl (Qk.assign rfl) ?_
      refine Wk.next ?_
      refine Wc.done'' (fun _ _ => rfl) rfl ?_
      have hge : xs.length ≤ i := by
        have : ¬ ((i : Int) < (xs.length : Int)) := of_decide_eq_false h14
        omega
      refine ⟨?_, rfl⟩
      rw [show xs = ys from ext_getD hlen fun j hj => heq j (by omega)]
      simp [pack]
    · -- t14 = True
      have hlt : i < xs.length := by
        have : (i : Int) < (xs.length : Int) := of_decide_eq_true h14
        omega
      refine Wk.next ?_
      refine Wc.assoc ?_
      refine Wc.condT rfl ?_
      refine Wc.skip ?_
      refine Wc.assoc ?_
      refine Wc.block ?_
      refine Wc.assoc ?_
      refine Wc.region ?_
      refine Wk.q rfl rfl rfl (Qk.move rfl) ?_
      refine Wk.q rfl rfl rfl (Qk.assign rfl) ?_
      refine Wk.next ?_
      refine Wc.assoc ?_
      refine Wc.draw0 rfl ?_
      refine Wd.q rfl rfl rfl (Qk.move rfl) ?_
      refine Wd.q rfl rfl rfl (Qk.move rfl) ?_
      refine Wd.q rfl rfl rfl (Qk.at rfl rfl ar28 sl28 (ha.old (by assumption)) (by constructor <;> omega)) ?_
      refine Wd.r rfl rfl rfl (Rk.intR rfl sh3 (ha.old (by assumption)) (i := i) (by omega)) rfl ?_
      refine Wd.q rfl rfl rfl (Qk.move rfl) ?_
      refine Wd.q rfl rfl rfl (Qk.move rfl) ?_
      refine Wd.q rfl rfl rfl (Qk.at rfl rfl ar28 sl28 (hb.old (by assumption)) (by constructor <;> omega)) ?_
      refine Wd.r rfl rfl rfl (Rk.intR rfl sh3 (hb.old (by assumption)) (i := i) (by omega)) rfl ?_
      refine Wd.b rfl rfl rfl (Qk.bin rfl rfl rfl) fun b h24 => ?_
      cases b
      · -- t24 = False
        refine Wd.next ?_
        refine Wc.condF rfl ?_
        refine Wc.skip ?_
        refine Wc.thence (fun _ _ => rfl) ?_
        refine Wc.region ?_
        refine Wk.q rfl rfl rfl (Qk.add rfl rfl (by omega)) ?_
        refine Wk.q rfl rfl rfl (Qk.move rfl) ?_
        refine Wk.next ?_
        refine Wc.finish fun fr hf => ?_
        refine ⟨i + 1, ⟨hlt, fun j hj => ?_⟩, by omega, rfl, hf.less ⟨rfl, rfl, rfl, rfl, trivial⟩⟩
        by_cases e : j = i
        · subst e
          have h : (xs.getD j 0 != ys.getD j 0) = false := h24
          exact eq_of_bne h
        · exact heq j (by omega)
      · -- t24 = True
        refine Wd.next ?_
        refine Wc.condT rfl ?_
        refine Wc.assoc ?_
        refine Wc.region ?_
        refine Wk.q rfl rfl rfl (Qk.assign rfl) ?_
        refine Wk.next ?_
        refine Wc.done'' (fun _ _ => rfl) rfl ?_
        refine ⟨?_, rfl⟩
        have h : (xs.getD i 0 != ys.getD i 0) = true := h24
        rw [decide_eq_false (fun e => by rw [e, bne_self_eq_false] at h; cases h)]
        rfl
  · -- t10 = True
    refine Wk.next ?_
    refine Wc.condT rfl ?_
    refine Wc.assoc ?_
    refine Wc.region ?_
    refine Wk.q rfl rfl rfl (Qk.assign rfl) ?_
    refine Wk.next ?_
    refine Wc.done'' (fun _ _ => rfl) rfl ?_
    refine ⟨?_, rfl⟩
    have h : ((xs.length : Int) != (ys.length : Int)) = true := h10
    rw [decide_eq_false (fun e => by rw [e, bne_self_eq_false] at h; cases h)]
    rfl

/-- A node of a part in the whole. -/
def nodeOf (Nz own shift u : Int) : Int := if u = own - 1 then Nz - 1 else if u = 0 then 0 else u + shift

set_option maxRecDepth 100000 in
theorem c17 {bz : Nat} {Nz own shift u : Int} {zv : Value} {s : St} (hz : s.get bz = some ⟨[.int .i64 Nz, zv], .rw⟩) (h1 : -1000 ≤ Nz ∧ Nz ≤ 1000) (h2 : -1000 ≤ own ∧ own ≤ 1000) (h3 : -1000 ≤ shift ∧ shift ≤ 1000) (h4 : -1000 ≤ u ∧ u ≤ 1000) :
    Ev Try.prog K (.func (.func 17) #[] #[.pointer (some ⟨bz, 0, none⟩)]) [.int .i64 u, .int .i64 own, .int .i64 shift] s fun r s' => r = .int .i64 (nodeOf Nz own shift u) ∧ s' = s := by
  refine Ev.enterK (by simp [known]) Try.func17 rfl rfl (Nat.le_of_ble_eq_true rfl) ?_
  refine Wc.tail ?_
  refine Wc.assoc ?_
  refine Wc.region ?_
  refine Wk.q rfl rfl rfl (Qk.assign rfl) ?_
  refine Wk.next ?_
  refine Wc.assoc ?_
  refine Wc.assoc ?_
  refine Wc.region ?_
  refine Wk.q rfl rfl rfl (Qk.move rfl) ?_
  refine Wk.q rfl rfl rfl (Qk.move rfl) ?_
  refine Wk.q rfl rfl rfl (Qk.sub rfl rfl (by omega)) ?_
  refine Wk.b rfl rfl rfl (Qk.bin rfl rfl rfl) fun b h11 => ?_
  cases b
  · -- t11 = False
    refine Wk.next ?_
    refine Wc.condF rfl ?_
    refine Wc.skip ?_
    refine Wc.assoc ?_
    refine Wc.assoc ?_
    refine Wc.region ?_
    refine Wk.q rfl rfl rfl (Qk.move rfl) ?_
    refine Wk.b rfl rfl rfl (Qk.bin rfl rfl rfl) fun b h16 => ?_
    cases b
    · -- t16 = False
      refine Wk.next ?_
      refine Wc.condF rfl ?_
      refine Wc.skip ?_
      refine Wc.assoc ?_
      refine Wc.region ?_
      refine Wk.q rfl rfl rfl (Qk.move rfl) ?_
      refine Wk.q rfl rfl rfl (Qk.move rfl) ?_
      refine Wk.q rfl rfl rfl (Qk.add rfl rfl (by omega)) ?_
      refine Wk.q rfl rfl rfl (Qk.assign rfl) ?_
      refine Wk.next ?_
      refine Wc.done'' (fun _ _ => rfl) rfl ?_
      have h1 : ¬ u = own - 1 := ne_of_beq_false h11
      have h2 : ¬ u = 0 := ne_of_beq_false h16
      exact ⟨by simp [pack, nodeOf, h1, h2], rfl⟩
    · -- t16 = True
      refine Wk.next ?_
      refine Wc.condT rfl ?_
      refine Wc.assoc ?_
      refine Wc.region ?_
      refine Wk.q rfl rfl rfl (Qk.assign rfl) ?_
      refine Wk.next ?_
      refine Wc.done'' (fun _ _ => rfl) rfl ?_
      have h1 : ¬ u = own - 1 := ne_of_beq_false h11
      have h2 : u = 0 := eq_of_beq h16
      exact ⟨by rw [nodeOf, if_neg h1, if_pos h2]; rfl, rfl⟩
  · -- t11 = True
    refine Wk.next ?_
    refine Wc.condT rfl ?_
    refine Wc.assoc ?_
    refine Wc.region ?_
    refine Wk.q rfl rfl rfl (Qk.fa rfl fd24_0) ?_
    refine Wk.r rfl rfl rfl (Rk.cell rfl sh3 (by first | assumption | repeat (first | exact gnew | exact gsetn gnew | assumption | refine gpush ?_ | refine gset ?_ (by simp; omega) )) (by simp) rfl) ?_
    refine Wk.q rfl rfl rfl (Qk.sub rfl rfl (by omega)) ?_
    refine Wk.q rfl rfl rfl (Qk.assign rfl) ?_
    refine Wk.next ?_
    refine Wc.done'' (fun _ _ => rfl) rfl ?_
    have h1 : u = own - 1 := eq_of_beq h11
    exact ⟨by rw [nodeOf, if_pos h1]; rfl, rfl⟩

theorem cap28 : pureVal Try.prog (Builtin.cap_ #[28] 0 #[.slice none 0 0]) = some (goInt 0) := by kernel_rfl
theorem Qk.cap0 {P : Program} {n : Nat} {k : Kn} {x : Operand} {t : TypeId} {args : Array Operand} {tys : Array TypeId} (ha : args = #[x]) (ht : tys = #[t]) (hx : kev k x = some (.slice none 0 0)) (hc : pureVal P (Builtin.cap_ #[t] 0 #[.slice none 0 0]) = some (goInt 0)) :
    Qk P n k (.call { callee := .builtin .cap, args := args, argTypes := tys }) (goInt 0) := ⟨rfl, fun fr hf => by
  subst ha ht
  simp only [aquiet, List.map_toArray, List.map_cons, List.map_nil, kev_ev hf hx]
  simpa [splain] using hc⟩

theorem slice_nil {P : Program} {s : St} {t e : TypeId} {sz bytes : Nat} (har : arrElem P t = none) (hs : sliceElem P t = some (e, sz, bytes)) : aslice P s t (.slice none 0 0) none (some (goInt 0)) none = some (.slice none 0 0) := by
  simp only [aslice, har, hs]
  rfl

theorem it3 : isIntType Try.prog 3 = true := by kernel_rfl
theorem un3 : (Try.prog.underlying 3).isSome = true := by kernel_rfl
theorem append_zeros {s : St} {m : Int} (hm : 0 < m ∧ m ≤ 2 ^ 20) : aappend Try.prog s 28 3 (.slice none 0 0) (.int .i64 m) = some (.slice (some ⟨s.size, 0, none⟩) m.toNat m.toNat, s.push ⟨ic (List.replicate m.toNat 0), .grown 1⟩) := by
  have e1 : (Value.int .i64 0).cells = #[.int .i64 0] := rfl
  have src : asource Try.prog s 3 1 (isIntType Try.prog 3) (.int .i64 m) = some (ic (List.replicate m.toNat 0), m.toNat) := by
    simp only [asource, it3, ze3, e1]
    simp only [if_true]
    rw [if_pos (by omega)]
    simp [copies_int, ic]
  have hcond : 8 ≤ 2 ^ 10 ∧ 0 < 8 ∧ 0 < 1 ∧ (ic (List.replicate m.toNat 0)).length = m.toNat * 1 ∧ (zeroOf Try.prog 3).map (·.cells.size) = some 1 ∧ (Try.prog.underlying 3).isSome ∧ (ic (List.replicate m.toNat 0)).all scalar = true := ⟨by decide, by decide, by decide, by simp [ic_len], by rw [ze3]; rfl, un3, ic_scalar _⟩
  simp only [aappend, sl28, src]
  rw [if_neg (not_not_intro hcond), if_neg (by omega), if_pos (by omega)]
  rfl

set_option maxRecDepth 100000 in
theorem c21 (hK : Late K) {m : Int} {s : St} (hm : 0 ≤ m ∧ m ≤ 2 ^ 20) : Ev Try.prog K (.func (.func 21) #[] #[]) [.slice none 0 0, .int .i64 m] s fun r s' => ∃ bo, Grew s' s.size r 1 0 [] bo ∧ Old s s' := by
  refine Ev.enterK (hK.none (by decide) _) Try.func21 rfl rfl (Nat.le_of_ble_eq_true rfl) ?_
  refine Wc.tail ?_
  refine Wc.assoc ?_
  refine Wc.region ?_
  refine Wk.q rfl rfl rfl (Qk.assign rfl) ?_
  refine Wk.next ?_
  refine Wc.assoc ?_
  refine Wc.assoc ?_
  refine Wc.region ?_
  refine Wk.q rfl rfl rfl (Qk.move rfl) ?_
  refine Wk.b rfl rfl rfl (Qk.bin rfl rfl rfl) fun b h6 => ?_
  obtain rfl : b = false := by rw [← h6, decide_eq_false_iff_not]; omega -- t6
  refine Wk.next ?_
  refine Wc.condF rfl ?_
  refine Wc.skip ?_
  refine Wc.assoc ?_
  refine Wc.assoc ?_
  refine Wc.region ?_
  refine Wk.q rfl rfl rfl (Qk.move rfl) ?_
  refine Wk.q rfl rfl rfl (Qk.move rfl) ?_
  refine Wk.q rfl rfl rfl (Qk.cap0 rfl rfl rfl cap28) ?_
  refine Wk.q rfl rfl rfl (Qk.move rfl) ?_
  refine Wk.q rfl rfl rfl (Qk.len rfl rfl rfl sl28) ?_
  refine Wk.q rfl rfl rfl (Qk.sub rfl rfl (by omega)) ?_
  refine Wk.q rfl rfl rfl (Qk.sub rfl rfl (by omega)) ?_
  refine Wk.q rfl rfl rfl (Qk.assign rfl) ?_
  refine Wk.next ?_
  refine Wc.assoc ?_
  refine Wc.region ?_
  refine Wk.q rfl rfl rfl (Qk.move rfl) ?_
  refine Wk.b rfl rfl rfl (Qk.bin rfl rfl rfl) fun b h16 => ?_
  cases b
  · -- t16 = False
    refine Wk.next ?_
    refine Wc.condF rfl ?_
    refine Wc.skip ?_
    refine Wc.assoc ?_
    refine Wc.region ?_
    refine Wk.q rfl rfl rfl (Qk.move rfl) ?_
    refine Wk.q rfl rfl rfl (Qk.assign rfl) ?_
    refine Wk.next ?_
    refine Wc.done'' (fun _ _ => rfl) rfl ?_
    have hm : ¬ m - (0 - 0) > 0 := of_decide_eq_false h16
    exact ⟨none, Grew.nil, Old.refl _⟩
  · -- t16 = True
    refine Wk.next ?_
    refine Wc.condT rfl ?_
    refine Wc.region ?_
    refine Wk.q rfl rfl rfl (Qk.move rfl) ?_
    refine Wk.q rfl rfl rfl (Qk.move rfl) ?_
    refine Wk.q rfl rfl rfl (Qk.cap0 rfl rfl rfl cap28) ?_
    have hsl : aslice Try.prog s 28 (.slice none 0 0) none (some (goInt 0)) none = some (.slice none 0 0) := slice_nil ar28 sl28
    refine Wk.r rfl rfl rfl (Rk.slice rfl rfl rfl rfl (by assumption)) ?_
    refine Wk.q rfl rfl rfl (Qk.move rfl) ?_
    refine Wk.store' fun s1 e1 => ?_
    have h16' : m - (0 - 0) > 0 := of_decide_eq_true h16
    have hap := append_zeros (s := s1) (m := m - (0 - 0)) (by omega)
    refine Wk.h rfl rfl rfl (Hk.append rfl rfl rfl rfl (by assumption)) ?_
    refine Wk.q rfl rfl rfl (Qk.move rfl) ?_
    refine Wk.q rfl rfl rfl (Qk.len rfl rfl rfl sl28) ?_
    have hown : OwnAt (s1.push ⟨ic (List.replicate (m - (0 - 0)).toNat 0), .grown 1⟩) (.slice (some ⟨s1.size, 0, none⟩) (m - (0 - 0)).toNat (m - (0 - 0)).toNat) 1 (m - (0 - 0)).toNat s1.size (ic (List.replicate (m - (0 - 0)).toNat 0)) := by
      have h16' : m - (0 - 0) > 0 := of_decide_eq_true h16
      exact ⟨_, _, _, rfl, Nat.le_refl _, gnew, .inr ⟨rfl, by omega⟩, by simp [ic_len], by rw [List.take_of_length_le]; simp [ic_len]⟩
    obtain ⟨v2, hsl2, hown2⟩ := slice_own (kd := .i64) ar28 sl28 (by decide) hown (c := 0) ⟨Int.le_refl _, by omega⟩
    refine Wk.r rfl rfl rfl (Rk.slice rfl rfl rfl rfl (by assumption)) ?_
    refine Wk.q rfl rfl rfl (Qk.assign rfl) ?_
    refine Wk.next ?_
    refine Wc.store fun s2 e2 => ?_
    refine Wc.assoc ?_
    refine Wc.region ?_
    refine Wk.q rfl rfl rfl (Qk.move rfl) ?_
    refine Wk.q rfl rfl rfl (Qk.assign rfl) ?_
    refine Wk.next ?_
    refine Wc.done'' (fun _ _ => rfl) rfl ?_
    subst e1 e2
    exact ⟨some _, .inr ⟨_, rfl, Nat.le_refl _, by simpa [pack] using hown2⟩, (Old.refl _).gpush _⟩

theorem und22 : Try.prog.underlying 22 = some (.slice 47) := by kernel_rfl
theorem eqnil22 : abin Try.prog .eql 22 (.tmp 3) (.const (.slice none 0 0)) (.slice none 0 0) (.slice none 0 0) = some (.bool true) := by kernel_rfl
theorem eqsome22 {x : Addr} {n c : Nat} : abin Try.prog .eql 22 (.tmp 3) (.const (.slice none 0 0)) (.slice (some x) n c) (.slice none 0 0) = some (.bool false) := by
  simp [abin, plain, splain, anil, und22]
theorem bs22 : abuildSlice Try.prog 22 0 [] = some ([], fun b => .slice (some ⟨b, 0, none⟩) 0 0) := by
  simp only [abuildSlice, sl22, ze47]
  rfl

set_option maxRecDepth 100000 in
theorem c22s (hK : Late K) {x : Addr} {cap : Nat} {l : List Arc} {s : St} (hv : ARow s (.slice (some x) l.length cap) l) (hl : l.length ≤ 1000) : Ev Try.prog K (.func (.func 22) #[] #[]) [.slice (some x) l.length cap] s fun r s' => ∃ bo, Grew s' s.size r 3 l.length (acs l) bo ∧ Old s s' := by
  refine Ev.enterK (hK.none (by decide) _) Try.func22 rfl rfl (Nat.le_of_ble_eq_true rfl) ?_
  refine Wc.tail ?_
  refine Wc.assoc ?_
  refine Wc.region ?_
  refine Wk.q rfl rfl rfl (Qk.assign rfl) ?_
  refine Wk.next ?_
  refine Wc.assoc ?_
  refine Wc.assoc ?_
  refine Wc.region ?_
  refine Wk.q rfl rfl rfl (Qk.move rfl) ?_
  refine Wk.b rfl rfl rfl (Qk.bin rfl rfl eqsome22) fun b h4 => ?_
  obtain rfl : b = false := by exact h4.symm -- t4
  refine Wk.next ?_
  refine Wc.condF rfl ?_
  refine Wc.skip ?_
  refine Wc.assoc ?_
  refine Wc.region ?_
  refine Wk.f rfl rfl rfl (Fk.buildSlice rfl bs22) ?_
  refine Wk.q rfl rfl rfl (Qk.move rfl) ?_
  refine Wk.store' fun s1 e1 => ?_
  have ho1 : Old s s1 := by subst e1; exact Old.push _ _
  have hown : Grew s1 s.size (.slice (some ⟨s.size, 0, none⟩) 0 0) 3 0 [] (some s.size) := by subst e1; exact .inr ⟨_, rfl, Nat.le_refl _, ⟨0, .rw, [], rfl, Nat.le_refl _, gnew, .inl rfl, rfl, rfl⟩⟩
  obtain ⟨v', t', bo', hap, hgr, hb', hsame⟩ := append_arcs ap22 hown ho1.1 (hv.old ho1) (by omega)
  refine Wk.h rfl rfl rfl (Hk.append rfl rfl rfl rfl (by assumption)) ?_
  refine Wk.q rfl rfl rfl (Qk.assign rfl) ?_
  refine Wk.next ?_
  refine Wc.store fun s2 e2 => ?_
  refine Wc.done'' (fun _ _ => rfl) rfl ?_
  subst e2
  exact ⟨bo', by simpa [pack] using hgr, Same.older ho1 hsame (by simp)⟩
set_option maxRecDepth 100000 in
theorem c22n (hK : Late K) {s : St} : Ev Try.prog K (.func (.func 22) #[] #[]) [.slice none 0 0] s fun r s' => ∃ bo, Grew s' s.size r 3 0 [] bo ∧ Old s s' := by
  refine Ev.enterK (hK.none (by decide) _) Try.func22 rfl rfl (Nat.le_of_ble_eq_true rfl) ?_
  refine Wc.tail ?_
  refine Wc.assoc ?_
  refine Wc.region ?_
  refine Wk.q rfl rfl rfl (Qk.assign rfl) ?_
  refine Wk.next ?_
  refine Wc.assoc ?_
  refine Wc.assoc ?_
  refine Wc.region ?_
  refine Wk.q rfl rfl rfl (Qk.move rfl) ?_
  refine Wk.b rfl rfl rfl (Qk.bin rfl rfl eqnil22) fun b h4 => ?_
  obtain rfl : b = true := by exact h4.symm -- t4
  refine Wk.next ?_
  refine Wc.condT rfl ?_
  refine Wc.assoc ?_
  refine Wc.region ?_
  refine Wk.q rfl rfl rfl (Qk.assign rfl) ?_
  refine Wk.next ?_
  refine Wc.done'' (fun _ _ => rfl) rfl ?_
  exact ⟨none, Grew.nil, Old.refl _⟩
theorem c22 (hK : Late K) {v : Value} {l : List Arc} {s : St} (hv : ARow s v l) (hl : l.length ≤ 1000) : Ev Try.prog K (.func (.func 22) #[] #[]) [v] s fun r s' => ∃ bo, Grew s' s.size r 3 l.length (acs l) bo ∧ Old s s' := by
  have hv0 := hv
  obtain ⟨a, cap, rfl, h1, _⟩ := hv0
  cases a with
  | some x => exact c22s hK hv hl
  | none =>
    have hc := h1.2 rfl
    have hl0 : l = [] := List.length_eq_zero_iff.1 (by omega)
    subst hc hl0
    exact c22n hK

def catTo (L : List (Value × List Int)) (i : Nat) : List Int := (L.take i).flatMap (·.2)
theorem cat_step {L : List (Value × List Int)} {i : Nat} (h : i < L.length) : catTo L (i + 1) = catTo L i ++ (L.getD i default).2 := by
  unfold catTo
  rw [List.take_succ_eq_append_getElem h, List.flatMap_append]
  simp [List.getD, h]
theorem cat_le {L : List (Value × List Int)} {i : Nat} (h : i ≤ L.length) : (catTo L i).length ≤ (catTo L L.length).length := by
  unfold catTo
  conv => rhs; rw [List.take_length, ← List.take_append_drop i L, List.flatMap_append, List.length_append]
  omega

set_option maxRecDepth 100000 in
theorem c10 (hK : Late K) {Lv : Value} {L : List (Value × List Int)} {s : St} (hL : Row s Lv L.length 1 (fun i => [(L.getD i default).1])) (hrows : ∀ i, i < L.length → IRow s (L.getD i default).1 (L.getD i default).2) (hLl : L.length ≤ 1000) (htot : (catTo L L.length).length ≤ 100000) :
    Ev Try.prog K (.func (.func 10) #[] #[]) [Lv] s fun r s' => ∃ bo, Grew s' s.size r 1 (catTo L L.length).length (ic (catTo L L.length)) bo ∧ Old s s' := by
  refine Ev.enterK (hK.none (by decide) _) Try.func10 rfl rfl (Nat.le_of_ble_eq_true rfl) ?_
  refine Wc.tail ?_
  refine Wc.assoc ?_
  refine Wc.region ?_
  refine Wk.q rfl rfl rfl (Qk.assign rfl) ?_
  refine Wk.next ?_
  refine Wc.assoc ?_
  refine Wc.region ?_
  refine Wk.q rfl rfl rfl (Qk.assign rfl) ?_
  refine Wk.next ?_
  refine Wc.assoc ?_
  refine Wc.assoc ?_
  refine Wc.region ?_
  refine Wk.q rfl rfl rfl (Qk.move rfl) ?_
  refine Wk.q rfl rfl rfl (Qk.lenR rfl rfl rfl hL sl54) ?_
  refine Wk.q rfl rfl rfl (Qk.move rfl) ?_
  refine Wk.next ?_
  refine Wc.block ?_
  refine Wc.loop (σ := Nat) (fun i => i ≤ L.length) (fun i => [(0, Lv), (3, .int .i64 (catTo L i).length), (9, Lv), (10, goInt L.length), (11, .int .i64 i)]) (fun _ => s) (fun i => L.length - i) 0 (Nat.zero_le _) ⟨rfl, rfl, rfl, rfl, rfl, trivial⟩ rfl ?_
  rintro i hi
  have hos := Old.refl s
  refine Wc.assoc ?_
  refine Wc.region ?_
  refine Wk.b rfl rfl rfl (Qk.bin rfl rfl rfl) fun b h12 => ?_
  cases b
  · -- t12 = False
    have hge : L.length ≤ i := by
      have : ¬ ((i : Int) < (L.length : Int)) := of_decide_eq_false h12
      omega
    obtain rfl : i = L.length := by omega
    refine Wk.next ?_
    refine Wc.assoc ?_
    refine Wc.condF rfl ?_
    refine Wc.jump (fun _ _ => rfl) ?_
    refine Wc.assoc ?_
    refine Wc.region ?_
    refine Wk.q rfl rfl rfl (Qk.move rfl) ?_
    refine Wk.c rfl rfl rfl (Ck.call rfl rfl) ((c21 hK (m := (catTo L L.length).length) ⟨by omega, by omega⟩).mono ?_)
    rintro v6 s1 ⟨bo, hgr, ho1⟩
    refine Wk.q rfl rfl rfl (Qk.assign rfl) ?_
    refine Wk.next ?_
    refine Wc.assoc ?_
    refine Wc.assoc ?_
    refine Wc.region ?_
    refine Wk.q rfl rfl rfl (Qk.move rfl) ?_
    refine Wk.q rfl rfl rfl (Qk.lenR rfl rfl rfl hL sl54) ?_
    refine Wk.q rfl rfl rfl (Qk.move rfl) ?_
    refine Wk.next ?_
    refine Wc.block ?_
    refine Wc.loop (σ := Nat × Value × Option Nat × St) (fun y => y.1 ≤ L.length ∧ Old s y.2.2.2 ∧ Grew y.2.2.2 s.size y.2.1 1 (catTo L y.1).length (ic (catTo L y.1)) y.2.2.1) (fun y => [(6, y.2.1), (25, Lv), (26, goInt L.length), (27, .int .i64 y.1)]) (fun y => y.2.2.2) (fun y => L.length - y.1) (0, v6, bo, s1) ⟨Nat.zero_le _, ho1, hgr⟩ ⟨rfl, rfl, rfl, rfl, trivial⟩ rfl ?_
    clear hgr ho1
    rintro ⟨i, v6, bo, sa⟩ ⟨hi, ho1, hgr⟩
    dsimp only at hi ho1 hgr ⊢
    refine Wc.assoc ?_
    refine Wc.region ?_
    refine Wk.b rfl rfl rfl (Qk.bin rfl rfl rfl) fun b h28 => ?_
    cases b
    · -- t28 = False
      refine Wk.next ?_
      refine Wc.assoc ?_
      refine Wc.condF rfl ?_
      refine Wc.jump (fun _ _ => rfl) ?_
      refine Wc.assoc ?_
      refine Wc.region ?_
      refine Wk.q rfl rfl rfl (Qk.move rfl) ?_
      refine Wk.q rfl rfl rfl (Qk.assign rfl) ?_
      refine Wk.next ?_
      refine Wc.done'' (fun _ _ => rfl) rfl ?_
      have hge : L.length ≤ i := by
        have : ¬ ((i : Int) < (L.length : Int)) := of_decide_eq_false h28
        omega
      obtain rfl : i = L.length := by omega
      exact ⟨bo, hgr, ho1⟩
    · -- t28 = True
      have hlt : i < L.length := by
        have : (i : Int) < (L.length : Int) := of_decide_eq_true h28
        omega
      refine Wk.next ?_
      refine Wc.assoc ?_
      refine Wc.condT rfl ?_
      refine Wc.skip ?_
      refine Wc.assoc ?_
      refine Wc.block ?_
      refine Wc.assoc ?_
      refine Wc.region ?_
      refine Wk.q rfl rfl rfl (Qk.at rfl rfl ar54 sl54 (hL.old (by assumption)) (by constructor <;> omega)) ?_
      refine Wk.r rfl rfl rfl (Rk.atS rfl sh28 (hL.old (by assumption)) (i := i) (by omega) rfl) ?_
      refine Wk.q rfl rfl rfl (Qk.assign rfl) ?_
      refine Wk.next ?_
      refine Wc.region ?_
      refine Wk.q rfl rfl rfl (Qk.move rfl) ?_
      refine Wk.q rfl rfl rfl (Qk.move rfl) ?_
      refine Wk.store' fun s1 e1 => ?_
      subst e1
      have hstep := cat_step (L := L) hlt
      have hle := cat_le (L := L) (i := i + 1) hlt
      rw [hstep, List.length_append] at hle
      obtain ⟨v', t', bo', hap, hgr2, hb', hsame⟩ := append_ints ap28 hgr ho1.1 ((hrows i hlt).old ho1) (by omega)
      refine Wk.h rfl rfl rfl (Hk.append rfl rfl rfl rfl (by assumption)) ?_
      refine Wk.q rfl rfl rfl (Qk.assign rfl) ?_
      refine Wk.next ?_
      refine Wc.store fun s2 e2 => ?_
      refine Wc.thence (fun _ _ => rfl) ?_
      refine Wc.region ?_
      refine Wk.q rfl rfl rfl (Qk.add rfl rfl (by omega)) ?_
      refine Wk.q rfl rfl rfl (Qk.move rfl) ?_
      refine Wk.next ?_
      refine Wc.finish fun fr hf => ?_
      subst e2
      refine ⟨(i + 1, v', bo', s2), ⟨hlt, Same.older ho1 hsame ?_, ?_⟩, by dsimp only; omega, rfl, hf.less ⟨rfl, rfl, rfl, rfl, trivial⟩⟩
      · intro x hx
        cases bo with
        | none => simp at hx
        | some b => simp at hx; subst hx; exact hgr.lt.2
      · dsimp only
        rw [hstep, List.length_append]
        simpa [ic] using hgr2
  · -- t12 = True
    have hlt : i < L.length := by
      have : (i : Int) < (L.length : Int) := of_decide_eq_true h12
      omega
    have hstep := cat_step (L := L) hlt
    have hle := cat_le (L := L) (i := i + 1) hlt
    rw [hstep, List.length_append] at hle
    refine Wk.next ?_
    refine Wc.assoc ?_
    refine Wc.condT rfl ?_
    refine Wc.skip ?_
    refine Wc.assoc ?_
    refine Wc.block ?_
    refine Wc.assoc ?_
    refine Wc.region ?_
    refine Wk.q rfl rfl rfl (Qk.at rfl rfl ar54 sl54 (hL.old (by assumption)) (by constructor <;> omega)) ?_
    refine Wk.r rfl rfl rfl (Rk.atS rfl sh28 (hL.old (by assumption)) (i := i) (by omega) rfl) ?_
    refine Wk.q rfl rfl rfl (Qk.assign rfl) ?_
    refine Wk.next ?_
    refine Wc.assoc ?_
    refine Wc.region ?_
    refine Wk.q rfl rfl rfl (Qk.move rfl) ?_
    refine Wk.q rfl rfl rfl (Qk.move rfl) ?_
    refine Wk.q rfl rfl rfl (Qk.lenR rfl rfl rfl (hrows i hlt) sl28) ?_
    refine Wk.q rfl rfl rfl (Qk.add rfl rfl (by omega)) ?_
    refine Wk.q rfl rfl rfl (Qk.assign rfl) ?_
    refine Wk.next ?_
    refine Wc.assoc ?_
    refine Wc.region ?_
    refine Wk.q rfl rfl rfl (Qk.move rfl) ?_
    refine Wk.b rfl rfl rfl (Qk.bin rfl rfl rfl) fun b h20 => ?_
    obtain rfl : b = false := by rw [← h20, decide_eq_false_iff_not]; omega -- t20
    refine Wk.next ?_
    refine Wc.condF rfl ?_
    refine Wc.skip ?_
    refine Wc.thence (fun _ _ => rfl) ?_
    refine Wc.region ?_
    refine Wk.q rfl rfl rfl (Qk.add rfl rfl (by omega)) ?_
    refine Wk.q rfl rfl rfl (Qk.move rfl) ?_
    refine Wk.next ?_
    refine Wc.finish fun fr hf => ?_
    have e : ((catTo L i).length : Int) + ((L.getD i default).2.length : Int) = (catTo L (i + 1)).length := by rw [hstep, List.length_append]; omega
    exact ⟨i + 1, hlt, by omega, rfl, hf.less ⟨rfl, by rw [← e]; rfl, rfl, rfl, rfl, trivial⟩⟩
end Go.Proofs.Ytgkmpidihgbkdaa
