/- The exported functions of the package flow. -/
import Derived.Test.YtgkmpidihgbkdaaJF
import Derived.Test.YtgkmpidihgbkdaaJG
import Derived.Test.YtgkmpidihgbkdaaJH
import Derived.Test.YtgkmpidihgbkdaaJK
namespace Go.Proofs.Ytgkmpidihgbkdaa
open Go.Abs
variable {K : Known}

theorem row_same {s : St} {v : Value} {n sz : Nat} {g : Nat → List Value} (h : Row s v n sz g) : ssame v v = true := by
  obtain ⟨a, cap, rfl, _⟩ := h
  cases a <;> simp [ssame]

theorem netOk_err {N : Int} {l : List Arc} (h : NetOk N l) : netErr N l = 0 := by
  have h1 := h.two
  have h2 := h.most
  have h3 := h.len
  unfold netErr
  rw [if_neg (by omega), if_neg]
  rintro (h4 | h4)
  · omega
  · rw [any_false (d := default) (fun i hi => by
      obtain ⟨a1, a2, a3, a4, a5, a6, a7⟩ := h.arc i hi
      show wrongArc N (arcAt l i) = false
      simp [wrongArc]
      omega)] at h4
    cases h4

theorem netOk_of {N : Int} {l : List Arc} (h : netErr N l = 0) : NetOk N l := by
  unfold netErr at h
  split at h
  · cases h
  · rename_i h1
    split at h
    · cases h
    · rename_i h2
      rw [not_or] at h1 h2
      refine ⟨by omega, by omega, by omega, fun i hi => ?_⟩
      have h3 : wrongArc N (arcAt l i) = false := by
        cases e : wrongArc N (arcAt l i) with
        | false => rfl
        | true => exact absurd (any_true (d := default) hi e) h2.2
      simp [wrongArc] at h3
      omega

set_option maxRecDepth 100000 in
theorem c13 (hK : Late K) {v : Value} {N : Int} {l : List Arc} {s : St} (hok : NetOk N l) (hv : ARow s v l) :
    Ev Try.prog K (.func (.func 13) #[] #[]) [.agg #[.int .i64 N, v]] s fun r s' => ∃ b xs, r = .tuple #[.slice (some ⟨b, 0, none⟩) l.length l.length, .int .i64 0] ∧ s.size ≤ b ∧ s'.get b = some ⟨ic xs, .rw⟩ ∧ xs.length = l.length ∧ Gr N l (am xs) ∧ Old s s' := by
  have hll := hok.len
  refine Ev.enterK (hK.none (by decide) _) Try.func13 rfl rfl (Nat.le_of_ble_eq_true rfl) ?_
  refine Wc.tail ?_
  refine Wc.assoc ?_
  refine Wc.region ?_
  refine Wk.f rfl rfl rfl (Fk.box rfl rfl) ?_
  refine Wk.q rfl rfl rfl (Qk.assign rfl) ?_
  refine Wk.q rfl rfl rfl (Qk.assign rfl) ?_
  refine Wk.next ?_
  refine Wc.store fun s1 e1 => ?_
  have ho1 : Old s s1 := by subst e1; exact Old.push _ _
  have hg1 : s1.get s.size = some ⟨[.int .i64 N, v], .rw⟩ := by subst e1; exact gnew
  refine Wc.assoc ?_
  refine Wc.assoc ?_
  refine Wc.region ?_
  refine Wk.r rfl rfl rfl (Rk.cells rfl sh24 (by first | assumption | repeat (first | exact gnew | exact gsetn gnew | assumption | refine gpush ?_ | refine gset ?_ (by simp; omega) )) (by simp) (by simp)) ?_
  refine Wk.c rfl rfl rfl (Ck.call rfl rfl) ((c30 hK (hv.old ho1) (by omega)).mono ?_)
  rintro _ s2 ⟨rfl, ho12⟩
  have ho2 : Old s s2 := ho1.trans ho12
  have hg2 := ho12.get hg1
  rw [netOk_err hok]
  refine Wk.q rfl rfl rfl (Qk.assign rfl) ?_
  refine Wk.next ?_
  refine Wc.assoc ?_
  refine Wc.region ?_
  refine Wk.q rfl rfl rfl (Qk.move rfl) ?_
  refine Wk.b rfl rfl rfl (Qk.bin rfl rfl rfl) fun b h8 => ?_
  obtain rfl : b = false := by exact h8.symm -- t8
  refine Wk.next ?_
  refine Wc.condF rfl ?_
  refine Wc.skip ?_
  refine Wc.assoc ?_
  refine Wc.region ?_
  refine Wk.r rfl rfl rfl (Rk.cells rfl sh24 (by first | assumption | repeat (first | exact gnew | exact gsetn gnew | assumption | refine gpush ?_ | refine gset ?_ (by simp; omega) )) (by simp) (by simp)) ?_
  refine Wk.c rfl rfl rfl (Ck.call rfl rfl) ((c31 hK hok (hv.old ho2)).mono ?_)
  rintro _ s3 ⟨b, xs, rfl, hb, hF, hxl, hgr, ho3⟩
  have := ho2.1
  refine Wk.q rfl rfl rfl (Qk.assign rfl) ?_
  refine Wk.q rfl rfl rfl (Qk.assign rfl) ?_
  refine Wk.next ?_
  refine Wc.done'' (fun _ _ => rfl) rfl ?_
  exact ⟨b, xs, rfl, by omega, hF, hxl, hgr, ho2.trans ho3⟩
set_option maxRecDepth 100000 in
theorem c15 (hK : Late K) {v xv : Value} {N : Int} {l : List Arc} {xs : List Int} {s : St} (hok : NetOk N l) (hv : ARow s v l) (hx : IRow s xv xs) (hlen : xs.length = l.length) (hf : IsFlow N l (am xs)) :
    Ev Try.prog K (.func (.func 15) #[] #[]) [.agg #[.int .i64 N, v], xv] s fun r s' => r = .tuple #[.int .i64 (val l (am xs)), .int .i64 0] ∧ Old s s' := by
  have hll := hok.len
  refine Ev.enterK (hK.none (by decide) _) Try.func15 rfl rfl (Nat.le_of_ble_eq_true rfl) ?_
  refine Wc.tail ?_
  refine Wc.assoc ?_
  refine Wc.region ?_
  refine Wk.f rfl rfl rfl (Fk.box rfl rfl) ?_
  refine Wk.q rfl rfl rfl (Qk.assign rfl) ?_
  refine Wk.q rfl rfl rfl (Qk.assign rfl) ?_
  refine Wk.next ?_
  refine Wc.store fun s1 e1 => ?_
  have ho1 : Old s s1 := by subst e1; exact Old.push _ _
  have hg1 : s1.get s.size = some ⟨[.int .i64 N, v], .rw⟩ := by subst e1; exact gnew
  refine Wc.assoc ?_
  refine Wc.assoc ?_
  refine Wc.region ?_
  refine Wk.r rfl rfl rfl (Rk.cells rfl sh24 (by first | assumption | repeat (first | exact gnew | exact gsetn gnew | assumption | refine gpush ?_ | refine gset ?_ (by simp; omega) )) (by simp) (by simp)) ?_
  refine Wk.c rfl rfl rfl (Ck.call rfl rfl) ((c30 hK (hv.old ho1) (by omega)).mono ?_)
  rintro _ s2 ⟨rfl, ho12⟩
  have ho2 : Old s s2 := ho1.trans ho12
  have hg2 := ho12.get hg1
  rw [netOk_err hok]
  refine Wk.q rfl rfl rfl (Qk.assign rfl) ?_
  refine Wk.next ?_
  refine Wc.assoc ?_
  refine Wc.region ?_
  refine Wk.q rfl rfl rfl (Qk.move rfl) ?_
  refine Wk.b rfl rfl rfl (Qk.bin rfl rfl rfl) fun b h12 => ?_
  obtain rfl : b = false := by exact h12.symm -- t12
  refine Wk.next ?_
  refine Wc.condF rfl ?_
  refine Wc.skip ?_
  refine Wc.assoc ?_
  refine Wc.region ?_
  refine Wk.r rfl rfl rfl (Rk.cells rfl sh24 (by first | assumption | repeat (first | exact gnew | exact gsetn gnew | assumption | refine gpush ?_ | refine gset ?_ (by simp; omega) )) (by simp) (by simp)) ?_
  refine Wk.q rfl rfl rfl (Qk.move rfl) ?_
  refine Wk.c rfl rfl rfl (Ck.call rfl rfl) ((c32 hK hok (hv.old ho2) (hx.old ho2) hlen hf).mono ?_)
  rintro _ s3 ⟨rfl, ho3⟩
  refine Wk.q rfl rfl rfl (Qk.move rfl) ?_
  refine Wk.q rfl rfl rfl (Qk.extract rfl rfl) ?_
  refine Wk.b rfl rfl rfl (Qk.extract rfl rfl) fun b h19 => ?_
  obtain rfl : b = true := by exact h19.symm -- t19
  refine Wk.q rfl rfl rfl (Qk.assign rfl) ?_
  refine Wk.q rfl rfl rfl (Qk.assign rfl) ?_
  refine Wk.next ?_
  refine Wc.assoc ?_
  refine Wc.assoc ?_
  refine Wc.region ?_
  refine Wk.q rfl rfl rfl (Qk.move rfl) ?_
  refine Wk.q rfl rfl rfl (Qk.not rfl) ?_
  refine Wk.next ?_
  refine Wc.condF rfl ?_
  refine Wc.skip ?_
  refine Wc.assoc ?_
  refine Wc.region ?_
  refine Wk.q rfl rfl rfl (Qk.move rfl) ?_
  refine Wk.q rfl rfl rfl (Qk.assign rfl) ?_
  refine Wk.q rfl rfl rfl (Qk.assign rfl) ?_
  refine Wk.next ?_
  refine Wc.done'' (fun _ _ => rfl) rfl ?_
  exact ⟨rfl, ho2.trans ho3⟩
set_option maxRecDepth 100000 in
theorem c18 (hK : Late K) {v : Value} {N : Int} {l : List Arc} {s : St} (hok : NetOk N l) (hv : ARow s v l) :
    Ev Try.prog K (.func (.func 18) #[] #[]) [.agg #[.int .i64 N, v]] s fun r s' => ∃ b out xs, r = .tuple #[.slice (some ⟨b, 0, none⟩) N.toNat N.toNat, .int .i64 0] ∧ s.size ≤ b ∧ s'.get b = some ⟨bc out, .rw⟩ ∧ xs.length = l.length ∧ Gr N l (am xs) ∧ IsLeast N l (am xs) out ∧ Old s s' := by
  have hll := hok.len
  refine Ev.enterK (hK.none (by decide) _) Try.func18 rfl rfl (Nat.le_of_ble_eq_true rfl) ?_
  refine Wc.tail ?_
  refine Wc.assoc ?_
  refine Wc.region ?_
  refine Wk.f rfl rfl rfl (Fk.box rfl rfl) ?_
  refine Wk.q rfl rfl rfl (Qk.assign rfl) ?_
  refine Wk.q rfl rfl rfl (Qk.assign rfl) ?_
  refine Wk.next ?_
  refine Wc.store fun s1 e1 => ?_
  have ho1 : Old s s1 := by subst e1; exact Old.push _ _
  have hg1 : s1.get s.size = some ⟨[.int .i64 N, v], .rw⟩ := by subst e1; exact gnew
  refine Wc.assoc ?_
  refine Wc.assoc ?_
  refine Wc.region ?_
  refine Wk.r rfl rfl rfl (Rk.cells rfl sh24 (by first | assumption | repeat (first | exact gnew | exact gsetn gnew | assumption | refine gpush ?_ | refine gset ?_ (by simp; omega) )) (by simp) (by simp)) ?_
  refine Wk.c rfl rfl rfl (Ck.call rfl rfl) ((c30 hK (hv.old ho1) (by omega)).mono ?_)
  rintro _ s2 ⟨rfl, ho12⟩
  have ho2 : Old s s2 := ho1.trans ho12
  have hg2 := ho12.get hg1
  rw [netOk_err hok]
  refine Wk.q rfl rfl rfl (Qk.assign rfl) ?_
  refine Wk.next ?_
  refine Wc.assoc ?_
  refine Wc.region ?_
  refine Wk.q rfl rfl rfl (Qk.move rfl) ?_
  refine Wk.b rfl rfl rfl (Qk.bin rfl rfl rfl) fun b h8 => ?_
  obtain rfl : b = false := by exact h8.symm -- t8
  have hsm : sames [.int .i64 N, v] [.int .i64 N, v] = true := by simp only [sames, row_same hv]; simp [ssame]
  refine Wk.next ?_
  refine Wc.condF rfl ?_
  refine Wc.skip ?_
  refine Wc.assoc ?_
  refine Wc.drawE0 rfl ?_
  refine We.cells rfl rfl rfl rfl rfl sh24 (by first | assumption | repeat (first | exact gnew | exact gsetn gnew | assumption | refine gpush ?_ | refine gset ?_ (by simp; omega) )) (by simp) (by simp) hsm (by repeat' (first | exact trivial | exact Or.inl rfl | apply And.intro | (refine Or.inr ?_; assumption) | (refine Or.inr ⟨_, _, (by first | assumption | repeat (first | exact gnew | exact gsetn gnew | assumption | refine gpush ?_ | refine gset ?_ (by simp; omega) )), (by simp), rfl⟩))) ?_
  refine We.cells rfl rfl rfl rfl rfl sh24 (by first | assumption | repeat (first | exact gnew | exact gsetn gnew | assumption | refine gpush ?_ | refine gset ?_ (by simp; omega) )) (by simp) (by simp) hsm (by repeat' (first | exact trivial | exact Or.inl rfl | apply And.intro | (refine Or.inr ?_; assumption) | (refine Or.inr ⟨_, _, (by first | assumption | repeat (first | exact gnew | exact gsetn gnew | assumption | refine gpush ?_ | refine gset ?_ (by simp; omega) )), (by simp), rfl⟩))) ?_
  refine We.c rfl rfl rfl (Ck.call rfl rfl) (by repeat' (first | exact trivial | exact Or.inl rfl | apply And.intro | (refine Or.inr ?_; assumption) | (refine Or.inr ⟨_, _, (by first | assumption | repeat (first | exact gnew | exact gsetn gnew | assumption | refine gpush ?_ | refine gset ?_ (by simp; omega) )), (by simp), rfl⟩))) ((c31 hK hok (hv.old ho2)).mono ?_)
  rintro _ s3 ⟨b, xs, rfl, hb, hF, hxl, hgr, ho3⟩
  have hg3 := ho3.get hg2
  have hxr : IRow s3 (.slice (some ⟨b, 0, none⟩) l.length l.length) xs := by rw [← hxl]; exact IRow.of_get hF (by simp) (Nat.le_refl _)
  refine ⟨(by repeat' (first | exact trivial | exact Or.inl rfl | apply And.intro | (refine Or.inr ?_; assumption) | (refine Or.inr ⟨_, _, (by first | assumption | repeat (first | exact gnew | exact gsetn gnew | assumption | refine gpush ?_ | refine gset ?_ (by simp; omega) )), (by simp), rfl⟩))), ?_⟩
  refine We.c rfl rfl rfl (Ck.call rfl rfl) (by repeat' (first | exact trivial | exact Or.inl rfl | apply And.intro | (refine Or.inr ?_; assumption) | (refine Or.inr ⟨_, _, (by first | assumption | repeat (first | exact gnew | exact gsetn gnew | assumption | refine gpush ?_ | refine gset ?_ (by simp; omega) )), (by simp), rfl⟩))) ((c33 hK hok (hv.old (ho2.trans ho3)) hxr hxl).mono ?_)
  rintro _ s4 ⟨b2, out, rfl, hb2, hB, hle, ho4⟩
  have := ho2.1
  have := ho3.1
  refine ⟨(by repeat' (first | exact trivial | exact Or.inl rfl | apply And.intro | (refine Or.inr ?_; assumption) | (refine Or.inr ⟨_, _, (by first | assumption | repeat (first | exact gnew | exact gsetn gnew | assumption | refine gpush ?_ | refine gset ?_ (by simp; omega) )), (by simp), rfl⟩))), ?_⟩
  refine We.q rfl rfl rfl (Qk.assign rfl) ?_
  refine We.q rfl rfl rfl (Qk.assign rfl) ?_
  refine We.next ?_
  refine Wc.done'' (fun _ _ => rfl) rfl ?_
  exact ⟨b2, out, xs, rfl, by omega, hB, hxl, hgr, hle, (ho2.trans ho3).trans ho4⟩
set_option maxRecDepth 100000 in
theorem c19 (hK : Late K) {v bv : Value} {N : Int} {l : List Arc} {bs : List Bool} {s : St} (hok : NetOk N l) (hv : ARow s v l) (hx : BRow s bv bs) (hlen : bs.length = N.toNat) (hS : Side N (inB bs)) :
    Ev Try.prog K (.func (.func 19) #[] #[]) [.agg #[.int .i64 N, v], bv] s fun r s' => r = .tuple #[.int .i64 (cutOf l (inB bs)), .int .i64 0] ∧ Old s s' := by
  have hll := hok.len
  refine Ev.enterK (hK.none (by decide) _) Try.func19 rfl rfl (Nat.le_of_ble_eq_true rfl) ?_
  refine Wc.tail ?_
  refine Wc.assoc ?_
  refine Wc.region ?_
  refine Wk.f rfl rfl rfl (Fk.box rfl rfl) ?_
  refine Wk.q rfl rfl rfl (Qk.assign rfl) ?_
  refine Wk.q rfl rfl rfl (Qk.assign rfl) ?_
  refine Wk.next ?_
  refine Wc.store fun s1 e1 => ?_
  have ho1 : Old s s1 := by subst e1; exact Old.push _ _
  have hg1 : s1.get s.size = some ⟨[.int .i64 N, v], .rw⟩ := by subst e1; exact gnew
  refine Wc.assoc ?_
  refine Wc.assoc ?_
  refine Wc.region ?_
  refine Wk.r rfl rfl rfl (Rk.cells rfl sh24 (by first | assumption | repeat (first | exact gnew | exact gsetn gnew | assumption | refine gpush ?_ | refine gset ?_ (by simp; omega) )) (by simp) (by simp)) ?_
  refine Wk.c rfl rfl rfl (Ck.call rfl rfl) ((c30 hK (hv.old ho1) (by omega)).mono ?_)
  rintro _ s2 ⟨rfl, ho12⟩
  have ho2 : Old s s2 := ho1.trans ho12
  have hg2 := ho12.get hg1
  rw [netOk_err hok]
  refine Wk.q rfl rfl rfl (Qk.assign rfl) ?_
  refine Wk.next ?_
  refine Wc.assoc ?_
  refine Wc.region ?_
  refine Wk.q rfl rfl rfl (Qk.move rfl) ?_
  refine Wk.b rfl rfl rfl (Qk.bin rfl rfl rfl) fun b h12 => ?_
  obtain rfl : b = false := by exact h12.symm -- t12
  refine Wk.next ?_
  refine Wc.condF rfl ?_
  refine Wc.skip ?_
  refine Wc.assoc ?_
  refine Wc.region ?_
  refine Wk.r rfl rfl rfl (Rk.cells rfl sh24 (by first | assumption | repeat (first | exact gnew | exact gsetn gnew | assumption | refine gpush ?_ | refine gset ?_ (by simp; omega) )) (by simp) (by simp)) ?_
  refine Wk.q rfl rfl rfl (Qk.move rfl) ?_
  refine Wk.c rfl rfl rfl (Ck.call rfl rfl) ((c34 hK hok (hv.old ho2) (hx.old ho2) hlen hS).mono ?_)
  rintro _ s3 ⟨rfl, ho3⟩
  refine Wk.q rfl rfl rfl (Qk.move rfl) ?_
  refine Wk.q rfl rfl rfl (Qk.extract rfl rfl) ?_
  refine Wk.b rfl rfl rfl (Qk.extract rfl rfl) fun b h19 => ?_
  obtain rfl : b = true := by exact h19.symm -- t19
  refine Wk.q rfl rfl rfl (Qk.assign rfl) ?_
  refine Wk.q rfl rfl rfl (Qk.assign rfl) ?_
  refine Wk.next ?_
  refine Wc.assoc ?_
  refine Wc.assoc ?_
  refine Wc.region ?_
  refine Wk.q rfl rfl rfl (Qk.move rfl) ?_
  refine Wk.q rfl rfl rfl (Qk.not rfl) ?_
  refine Wk.next ?_
  refine Wc.condF rfl ?_
  refine Wc.skip ?_
  refine Wc.assoc ?_
  refine Wc.region ?_
  refine Wk.q rfl rfl rfl (Qk.move rfl) ?_
  refine Wk.q rfl rfl rfl (Qk.assign rfl) ?_
  refine Wk.q rfl rfl rfl (Qk.assign rfl) ?_
  refine Wk.next ?_
  refine Wc.done'' (fun _ _ => rfl) rfl ?_
  exact ⟨rfl, ho2.trans ho3⟩
set_option maxRecDepth 100000 in
theorem c20 (hK : Late K) {v xv bv : Value} {N : Int} {l : List Arc} {xs : List Int} {bs : List Bool} {s : St} (hok : NetOk N l) (hv : ARow s v l) (hx : IRow s xv xs) (hlen : xs.length = l.length) (hf : IsFlow N l (am xs)) (hy : BRow s bv bs) (hlen2 : bs.length = N.toNat) (hS : Side N (inB bs)) :
    Ev Try.prog K (.func (.func 20) #[] #[]) [.agg #[.int .i64 N, v], xv, bv] s fun r s' => r = .tuple #[.bool (val l (am xs) == cutOf l (inB bs)), .int .i64 0] ∧ Old s s' := by
  have hll := hok.len
  refine Ev.enterK (hK.none (by decide) _) Try.func20 rfl rfl (Nat.le_of_ble_eq_true rfl) ?_
  refine Wc.tail ?_
  refine Wc.assoc ?_
  refine Wc.region ?_
  refine Wk.f rfl rfl rfl (Fk.box rfl rfl) ?_
  refine Wk.q rfl rfl rfl (Qk.assign rfl) ?_
  refine Wk.q rfl rfl rfl (Qk.assign rfl) ?_
  refine Wk.next ?_
  refine Wc.store fun s1 e1 => ?_
  have ho1 : Old s s1 := by subst e1; exact Old.push _ _
  have hg1 : s1.get s.size = some ⟨[.int .i64 N, v], .rw⟩ := by subst e1; exact gnew
  refine Wc.assoc ?_
  refine Wc.assoc ?_
  refine Wc.region ?_
  refine Wk.r rfl rfl rfl (Rk.cells rfl sh24 (by first | assumption | repeat (first | exact gnew | exact gsetn gnew | assumption | refine gpush ?_ | refine gset ?_ (by simp; omega) )) (by simp) (by simp)) ?_
  refine Wk.c rfl rfl rfl (Ck.call rfl rfl) ((c30 hK (hv.old ho1) (by omega)).mono ?_)
  rintro _ s2 ⟨rfl, ho12⟩
  have ho2 : Old s s2 := ho1.trans ho12
  have hg2 := ho12.get hg1
  rw [netOk_err hok]
  refine Wk.q rfl rfl rfl (Qk.assign rfl) ?_
  refine Wk.next ?_
  refine Wc.assoc ?_
  refine Wc.region ?_
  refine Wk.q rfl rfl rfl (Qk.move rfl) ?_
  refine Wk.b rfl rfl rfl (Qk.bin rfl rfl rfl) fun b h16 => ?_
  obtain rfl : b = false := by exact h16.symm -- t16
  refine Wk.next ?_
  refine Wc.condF rfl ?_
  refine Wc.skip ?_
  refine Wc.assoc ?_
  refine Wc.region ?_
  refine Wk.r rfl rfl rfl (Rk.cells rfl sh24 (by first | assumption | repeat (first | exact gnew | exact gsetn gnew | assumption | refine gpush ?_ | refine gset ?_ (by simp; omega) )) (by simp) (by simp)) ?_
  refine Wk.q rfl rfl rfl (Qk.move rfl) ?_
  refine Wk.c rfl rfl rfl (Ck.call rfl rfl) ((c32 hK hok (hv.old ho2) (hx.old ho2) hlen hf).mono ?_)
  rintro _ s3 ⟨rfl, ho3⟩
  have hg3 := ho3.get hg2
  refine Wk.q rfl rfl rfl (Qk.move rfl) ?_
  refine Wk.q rfl rfl rfl (Qk.extract rfl rfl) ?_
  refine Wk.b rfl rfl rfl (Qk.extract rfl rfl) fun b h23 => ?_
  obtain rfl : b = true := by exact h23.symm -- t23
  refine Wk.q rfl rfl rfl (Qk.assign rfl) ?_
  refine Wk.q rfl rfl rfl (Qk.assign rfl) ?_
  refine Wk.next ?_
  refine Wc.assoc ?_
  refine Wc.region ?_
  refine Wk.r rfl rfl rfl (Rk.cells rfl sh24 (by first | assumption | repeat (first | exact gnew | exact gsetn gnew | assumption | refine gpush ?_ | refine gset ?_ (by simp; omega) )) (by simp) (by simp)) ?_
  refine Wk.q rfl rfl rfl (Qk.move rfl) ?_
  refine Wk.c rfl rfl rfl (Ck.call rfl rfl) ((c34 hK hok (hv.old (ho2.trans ho3)) (hy.old (ho2.trans ho3)) hlen2 hS).mono ?_)
  rintro _ s4 ⟨rfl, ho4⟩
  refine Wk.q rfl rfl rfl (Qk.move rfl) ?_
  refine Wk.q rfl rfl rfl (Qk.extract rfl rfl) ?_
  refine Wk.b rfl rfl rfl (Qk.extract rfl rfl) fun b h29 => ?_
  obtain rfl : b = true := by exact h29.symm -- t29
  refine Wk.q rfl rfl rfl (Qk.assign rfl) ?_
  refine Wk.q rfl rfl rfl (Qk.assign rfl) ?_
  refine Wk.next ?_
  refine Wc.assoc ?_
  refine Wc.region ?_
  refine Wk.q rfl rfl rfl (Qk.move rfl) ?_
  refine Wk.q rfl rfl rfl (Qk.move rfl) ?_
  refine Wk.q rfl rfl rfl (Qk.move rfl) ?_
  refine Wk.q rfl rfl rfl (Qk.pickT rfl rfl) ?_
  refine Wk.q rfl rfl rfl (Qk.move rfl) ?_
  refine Wk.q rfl rfl rfl (Qk.move rfl) ?_
  refine Wk.q rfl rfl rfl (Qk.move rfl) ?_
  refine Wk.q rfl rfl rfl (Qk.bin rfl rfl rfl) ?_
  refine Wk.q rfl rfl rfl (Qk.pickT rfl rfl) ?_
  refine Wk.q rfl rfl rfl (Qk.assign rfl) ?_
  refine Wk.q rfl rfl rfl (Qk.assign rfl) ?_
  refine Wk.next ?_
  refine Wc.done'' (fun _ _ => rfl) rfl ?_
  exact ⟨rfl, (ho2.trans ho3).trans ho4⟩
end Go.Proofs.Ytgkmpidihgbkdaa
