/- Networks side by side, and one behind the other: TopJoined. -/
import Derived.Test.YtgkmpidihgbkdaaJY
namespace Go.Proofs.Ytgkmpidihgbkdaa
open Go.Abs
variable {K : Known}

theorem row_scalar {s : St} {v : Value} {n sz : Nat} {g : Nat → List Value} (h : Row s v n sz g) : Abs.scalar v = true := by
  obtain ⟨a, cap, rfl, _⟩ := h
  rfl
theorem val_bound {N : Int} {l : List Arc} {x : Nat → Int} (h : NetOk N l) (hf : IsFlow N l x) : -200000000 ≤ val l x ∧ val l x ≤ 200000000 := by
  have := pot_bound (S := only 0) h hf.range (Nat.le_refl _)
  have e : val l x = - Sm l.length (into l x (only 0)) := rfl
  omega
theorem bs54 {b c n m : Nat} : abuildSlice Try.prog 54 2 [(0, .slice (some ⟨b, 0, none⟩) n n), (1, .slice (some ⟨c, 0, none⟩) m m)] = some ([.slice (some ⟨b, 0, none⟩) n n, .slice (some ⟨c, 0, none⟩) m m], fun d => .slice (some ⟨d, 0, none⟩) 2 2) := by
  have e0 : (Value.slice none 0 0).cells = #[.slice none 0 0] := rfl
  have e1 : ∀ b n, (Value.slice (some ⟨b, 0, none⟩) n n).cells = #[.slice (some ⟨b, 0, none⟩) n n] := fun _ _ => rfl
  have e2 : ∀ b n, isVal (.slice (some ⟨b, 0, none⟩) n n) = true := fun _ _ => rfl
  simp [abuildSlice, sl54, ze28, e0, e1, e2, afill, copies, splice]
theorem pair_row {s : St} {b : Nat} {v w : Value} {xs ys : List Int} (h : s.get b = some ⟨[v, w], .rw⟩) : Row s (.slice (some ⟨b, 0, none⟩) 2 2) ([(v, xs), (w, ys)] : List (Value × List Int)).length 1 (fun i => [(([(v, xs), (w, ys)] : List (Value × List Int)).getD i default).1]) :=
  Row.of_get h (by simp) (Nat.le_refl _) fun i hi => by
    match i, hi with
    | 0, _ => exact ⟨Nat.le_of_ble_eq_true rfl, rfl⟩
    | 1, _ => exact ⟨Nat.le_of_ble_eq_true rfl, rfl⟩
    | i + 2, hi => exact absurd hi (by omega)
theorem getD_app1 {a b : List Int} {i : Nat} (h : i < a.length) : (a ++ b).getD i 0 = a.getD i 0 := by simp [List.getD, List.getElem?_append_left h]
theorem getD_app2 {a b : List Int} {j : Nat} : (a ++ b).getD (a.length + j) 0 = b.getD j 0 := by simp [List.getD, List.getElem?_append_right]
theorem pair_rows {s : St} {v w : Value} {xs ys : List Int} (h1 : IRow s v xs) (h2 : IRow s w ys) : ∀ i, i < ([(v, xs), (w, ys)] : List (Value × List Int)).length → IRow s (([(v, xs), (w, ys)] : List (Value × List Int)).getD i default).1 (([(v, xs), (w, ys)] : List (Value × List Int)).getD i default).2 := fun i hi => by
  match i, hi with
  | 0, _ => exact h1
  | 1, _ => exact h2
  | i + 2, hi => exact absurd hi (by simp)
theorem bne_false {a b : Bool} (h : a = b) : (a != b) = false := by subst h; cases a <;> rfl
theorem neq140 {a b : Bool} : abin Try.prog .neq 4 (.tmp 135) (.tmp 139) (.bool a) (.bool b) = some (.bool (a != b)) := by cases a <;> cases b <;> kernel_rfl
theorem neq156 {a b : Bool} : abin Try.prog .neq 4 (.tmp 151) (.tmp 155) (.bool a) (.bool b) = some (.bool (a != b)) := by cases a <;> cases b <;> kernel_rfl

set_option maxHeartbeats 4000000 in
set_option maxRecDepth 100000 in
theorem c3 (hK : Late K) (hK4 : K 4 [] = some (.bool true)) (hK3 : ∀ args, K 3 args = none) {nv mv : Value} {nN mN : Int} {nl ml : List Arc} {s : St} (hn : ARow s nv nl) (hm : ARow s mv ml) :
    Ev Try.prog K (.func (.func 3) #[] #[]) [.agg #[.int .i64 nN, nv], .agg #[.int .i64 mN, mv]] s fun r _ => r = .bool true := by
  refine Ev.enterK (by simp [known, hK3]) Try.func3 rfl rfl (Nat.le_of_ble_eq_true rfl) ?_
  refine Wc.tail ?_
  refine Wc.assoc ?_
  refine Wc.region ?_
  refine Wk.f rfl rfl rfl (Fk.box rfl rfl) ?_
  refine Wk.f rfl rfl rfl (Fk.box rfl rfl) ?_
  refine Wk.q rfl rfl rfl (Qk.assign rfl) ?_
  refine Wk.next ?_
  refine Wc.store fun s1 e1 => ?_
  have ho1 : Old s s1 := by subst e1; exact ((Old.refl s).gpush _).gpush _
  have hn1 : s1.get s.size = some ⟨[.int .i64 nN, nv], .rw⟩ := by subst e1; exact gpush gnew
  have hm1 : s1.get (s.push ⟨[.int .i64 nN, nv], .rw⟩).size = some ⟨[.int .i64 mN, mv], .rw⟩ := by subst e1; exact gnew
  simp only [St.size_push] at hm1 ⊢
  refine Wc.assoc ?_
  refine Wc.region ?_
  refine Wk.c rfl rfl rfl (Ck.call rfl rfl) ((Ev.known (Q := fun r s' => r = .bool true ∧ s' = s1) hK4 ⟨rfl, rfl⟩).mono ?_)
  rintro _ sx ⟨rfl, e⟩
  have e' := e.symm
  subst e'
  skip
  refine Wk.b rfl rfl rfl (Qk.assign rfl) fun b h5 => ?_
  obtain rfl : b = true := by exact h5.symm -- t5
  refine Wk.next ?_
  refine Wc.assoc ?_
  refine Wc.assoc ?_
  refine Wc.region ?_
  refine Wk.q rfl rfl rfl (Qk.move rfl) ?_
  refine Wk.q rfl rfl rfl (Qk.not rfl) ?_
  refine Wk.q rfl rfl rfl (Qk.move rfl) ?_
  refine Wk.r rfl rfl rfl (Rk.cells rfl sh24 (by first | assumption | repeat (first | exact gnew | exact gsetn gnew | assumption | exact gsetn hd9 | refine gpush ?_ | refine gset ?_ (by simp; omega) )) (by simp) (by simp)) ?_
  refine Wk.c rfl rfl rfl (Ck.call rfl rfl) ((c5 hK (hn.old ho1)).mono ?_)
  rintro _ sa ⟨b1, rfl, hoa⟩
  have hna := hoa.get hn1
  have hma := hoa.get hm1
  have ho1a := ho1.trans hoa
  skip
  refine Wk.b rfl rfl rfl (Qk.pickF rfl rfl) fun b h31 => ?_
  cases b
  · -- t31 = False
    refine Wk.q rfl rfl rfl (Qk.move rfl) ?_
    refine Wk.r rfl rfl rfl (Rk.cells rfl sh24 (by first | assumption | repeat (first | exact gnew | exact gsetn gnew | assumption | exact gsetn hd9 | refine gpush ?_ | refine gset ?_ (by simp; omega) )) (by simp) (by simp)) ?_
    refine Wk.c rfl rfl rfl (Ck.call rfl rfl) ((c5 hK (hm.old ho1a)).mono ?_)
    rintro _ sb ⟨b2, rfl, hob⟩
    have hnb := hob.get hna
    have hmb := hob.get hma
    have ho1b := ho1a.trans hob
    skip
    refine Wk.b rfl rfl rfl (Qk.pickF rfl rfl) fun b h35 => ?_
    cases b
    · -- t35 = False
      refine Wk.q rfl rfl rfl (Qk.move rfl) ?_
      refine Wk.r rfl rfl rfl (Rk.cells rfl sh24 (by first | assumption | repeat (first | exact gnew | exact gsetn gnew | assumption | exact gsetn hd9 | refine gpush ?_ | refine gset ?_ (by simp; omega) )) (by simp) (by simp)) ?_
      refine Wk.c rfl rfl rfl (Ck.call rfl rfl) ((c6 hK (hn.old ho1b)).mono ?_)
      rintro _ sc ⟨e1', rfl, hnok, hoc⟩
      have hnc := hoc.get hnb
      have hmc := hoc.get hmb
      have ho1c := ho1b.trans hoc
      refine Wk.b rfl rfl rfl (Qk.bin rfl rfl rfl) fun b h39 => ?_
      cases b
      · -- t39 = False
        refine Wk.q rfl rfl rfl (Qk.pickF rfl rfl) ?_
        refine Wk.q rfl rfl rfl (Qk.move rfl) ?_
        refine Wk.r rfl rfl rfl (Rk.cells rfl sh24 (by first | assumption | repeat (first | exact gnew | exact gsetn gnew | assumption | exact gsetn hd9 | refine gpush ?_ | refine gset ?_ (by simp; omega) )) (by simp) (by simp)) ?_
        refine Wk.c rfl rfl rfl (Ck.call rfl rfl) ((c6 hK (hm.old ho1c)).mono ?_)
        rintro _ sd ⟨e2', rfl, hmok, hod⟩
        have hnd := hod.get hnc
        have hmd := hod.get hmc
        have ho1d := ho1c.trans hod
        refine Wk.b rfl rfl rfl (Qk.bin rfl rfl rfl) fun b h44 => ?_
        cases b
        · -- t44 = False
          have hN := hnok (eq_of_bne h39)
          have hM := hmok (eq_of_bne h44)
          have hN1 := hN.two
          have hM1 := hM.two
          have hN2 := hN.most
          have hM2 := hM.most
          have hNl := hN.len
          have hMl := hM.len
          refine Wk.q rfl rfl rfl (Qk.pickF rfl rfl) ?_
          refine Wk.next ?_
          refine Wc.condF rfl ?_
          refine Wc.skip ?_
          refine Wc.assoc ?_
          refine Wc.region ?_
          refine Wk.r rfl rfl rfl (Rk.cells rfl sh24 (by first | assumption | repeat (first | exact gnew | exact gsetn gnew | assumption | exact gsetn hd9 | refine gpush ?_ | refine gset ?_ (by simp; omega) )) (by simp) (by simp)) ?_
          refine Wk.r rfl rfl rfl (Rk.cells rfl sh24 (by first | assumption | repeat (first | exact gnew | exact gsetn gnew | assumption | exact gsetn hd9 | refine gpush ?_ | refine gset ?_ (by simp; omega) )) (by simp) (by simp)) ?_
          refine Wk.c rfl rfl rfl (Ck.call rfl rfl) ((c7 hK hN hM (hn.old ho1d) (hm.old ho1d)).mono ?_)
          rintro _ se ⟨zv, av, rfl, hzr, har, hoe⟩
          rw [side_list hM] at hzr
          have hzs := row_scalar hzr
          have hne := hoe.get hnd
          have hme := hoe.get hmd
          have ho1e := ho1d.trans hoe
          refine Wk.q rfl rfl rfl (Qk.move rfl) ?_
          refine Wk.q rfl rfl rfl (Qk.extract rfl rfl) ?_
          refine Wk.q rfl rfl rfl (Qk.extract rfl rfl) ?_
          refine Wk.f rfl rfl rfl (Fk.alloc ze24) ?_
          refine Wk.h rfl rfl rfl (Hk.whole rfl rfl sh24 (by first | assumption | repeat (first | exact gnew | exact gsetn gnew | assumption | exact gsetn hd9 | refine gpush ?_ | refine gset ?_ (by simp; omega) )) rfl rfl (by first | rfl | (show (true && (Abs.scalar _ && true)) = true; rw [Bool.true_and, Bool.and_true]; assumption))) ?_
          refine Wk.q rfl rfl rfl (Qk.assign rfl) ?_
          refine Wk.next ?_
          refine Wc.store fun s2 e2 => ?_
          have hoe2 : Old se s2 := by subst e2; exact ((Old.refl _).gpush _).gset (Nat.le_refl _)
          have hz2 : s2.get se.size = some ⟨[.int .i64 (nN + mN - 2), zv], .rw⟩ := by subst e2; exact gsetn gnew
          have hn2 := hoe2.get hne
          have hm2 := hoe2.get hme
          have ho12 := ho1e.trans hoe2
          clear e2
          refine Wc.assoc ?_
          refine Wc.assoc ?_
          refine Wc.region ?_
          refine Wk.r rfl rfl rfl (Rk.cells rfl sh24 (by first | assumption | repeat (first | exact gnew | exact gsetn gnew | assumption | exact gsetn hd9 | refine gpush ?_ | refine gset ?_ (by simp; omega) )) (by simp) (by simp)) ?_
          refine Wk.c rfl rfl rfl (Ck.call rfl rfl) ((c6 hK (hzr.old hoe2)).mono ?_)
          rintro _ sf ⟨e3', rfl, hzok, hof⟩
          have hnf := hof.get hn2
          have hmf := hof.get hm2
          have hzf := hof.get hz2
          have ho1f := ho12.trans hof
          have hoef := hoe2.trans hof
          refine Wk.b rfl rfl rfl (Qk.bin rfl rfl rfl) fun b h55 => ?_
          cases b
          · -- t55 = False
            have hZ := hzok (eq_of_bne h55)
            refine Wk.next ?_
            refine Wc.condF rfl ?_
            refine Wc.skip ?_
            refine Wc.assoc ?_
            refine Wc.region ?_
            refine Wk.r rfl rfl rfl (Rk.cells rfl sh24 (by first | assumption | repeat (first | exact gnew | exact gsetn gnew | assumption | exact gsetn hd9 | refine gpush ?_ | refine gset ?_ (by simp; omega) )) (by simp) (by simp)) ?_
            refine Wk.c rfl rfl rfl (Ck.call rfl rfl) ((c8 hK hN (hn.old ho1f)).mono ?_)
            rintro _ sg ⟨bx, bxo, xs, xo, rfl, hbx, hbxo, hX, hXo, hxl, hxg, hxle, hog⟩
            have hng := hog.get hnf
            have hmg := hog.get hmf
            have hzg := hog.get hzf
            have ho1g := ho1f.trans hog
            have hoeg := hoef.trans hog
            refine Wk.q rfl rfl rfl (Qk.move rfl) ?_
            refine Wk.q rfl rfl rfl (Qk.extract rfl rfl) ?_
            refine Wk.q rfl rfl rfl (Qk.extract rfl rfl) ?_
            refine Wk.q rfl rfl rfl (Qk.extract rfl rfl) ?_
            refine Wk.b rfl rfl rfl (Qk.extract rfl rfl) fun b h63 => ?_
            obtain rfl : b = true := by exact h63.symm -- t63
            refine Wk.q rfl rfl rfl (Qk.assign rfl) ?_
            refine Wk.q rfl rfl rfl (Qk.assign rfl) ?_
            refine Wk.q rfl rfl rfl (Qk.assign rfl) ?_
            refine Wk.q rfl rfl rfl (Qk.assign rfl) ?_
            refine Wk.next ?_
            refine Wc.assoc ?_
            refine Wc.region ?_
            refine Wk.r rfl rfl rfl (Rk.cells rfl sh24 (by first | assumption | repeat (first | exact gnew | exact gsetn gnew | assumption | exact gsetn hd9 | refine gpush ?_ | refine gset ?_ (by simp; omega) )) (by simp) (by simp)) ?_
            refine Wk.c rfl rfl rfl (Ck.call rfl rfl) ((c8 hK hM (hm.old ho1g)).mono ?_)
            rintro _ sh ⟨bY, bYo, ys, yo, rfl, hbY, hbYo, hY, hYo, hyl, hyg, hyle, hoh⟩
            have hnh := hoh.get hng
            have hmh := hoh.get hmg
            have hzh := hoh.get hzg
            have ho1h := ho1g.trans hoh
            have hoeh := hoeg.trans hoh
            refine Wk.q rfl rfl rfl (Qk.move rfl) ?_
            refine Wk.q rfl rfl rfl (Qk.extract rfl rfl) ?_
            refine Wk.q rfl rfl rfl (Qk.extract rfl rfl) ?_
            refine Wk.q rfl rfl rfl (Qk.extract rfl rfl) ?_
            refine Wk.b rfl rfl rfl (Qk.extract rfl rfl) fun b h70 => ?_
            obtain rfl : b = true := by exact h70.symm -- t70
            refine Wk.q rfl rfl rfl (Qk.assign rfl) ?_
            refine Wk.q rfl rfl rfl (Qk.assign rfl) ?_
            refine Wk.q rfl rfl rfl (Qk.assign rfl) ?_
            refine Wk.q rfl rfl rfl (Qk.assign rfl) ?_
            refine Wk.next ?_
            refine Wc.assoc ?_
            refine Wc.region ?_
            refine Wk.r rfl rfl rfl (Rk.cells rfl sh24 (by first | assumption | repeat (first | exact gnew | exact gsetn gnew | assumption | exact gsetn hd9 | refine gpush ?_ | refine gset ?_ (by simp; omega) )) (by simp) (by simp)) ?_
            refine Wk.c rfl rfl rfl (Ck.call rfl rfl) ((c8 hK hZ (hzr.old hoeh)).mono ?_)
            rintro _ si ⟨bZ, bZo, zs, zo, rfl, hbZ, hbZo, hZx, hZo, hzl, hzg', hzle, hoi⟩
            have hni := hoi.get hnh
            have hmi := hoi.get hmh
            have hzi := hoi.get hzh
            have ho1i := ho1h.trans hoi
            have hoei := hoeh.trans hoi
            have hXi := hoi.get (hoh.get hX)
            have hXoi := hoi.get (hoh.get hXo)
            have hYi := hoi.get hY
            have hYoi := hoi.get hYo
            obtain ⟨hval, hzx, hzy⟩ := side_law hN hM hZ hxg hyg hzg'
            obtain ⟨hsx, hsy⟩ := side_least hN hM hZ hxg hyg hzg' hxle hyle hzle
            have hvx := val_bound hN hxg.flow
            have hvy := val_bound hM hyg.flow
            have hzeq : zs = xs ++ ys := by
              have hzl' : zs.length = nl.length + ml.length := by rw [hzl, glue_len]
              refine ext_getD (by rw [List.length_append]; omega) fun j hj => ?_
              by_cases hjl : j < nl.length
              · have := hzx j hjl
                simp only [am] at this
                rw [this, getD_app1 (by omega)]
              · obtain ⟨j', rfl⟩ : ∃ j', j = nl.length + j' := ⟨j - nl.length, by omega⟩
                have := hzy j' (by omega)
                simp only [am] at this
                rw [this, ← hxl, getD_app2]
            refine Wk.q rfl rfl rfl (Qk.move rfl) ?_
            refine Wk.q rfl rfl rfl (Qk.extract rfl rfl) ?_
            refine Wk.q rfl rfl rfl (Qk.extract rfl rfl) ?_
            refine Wk.q rfl rfl rfl (Qk.extract rfl rfl) ?_
            refine Wk.b rfl rfl rfl (Qk.extract rfl rfl) fun b h77 => ?_
            obtain rfl : b = true := by exact h77.symm -- t77
            refine Wk.q rfl rfl rfl (Qk.assign rfl) ?_
            refine Wk.q rfl rfl rfl (Qk.assign rfl) ?_
            refine Wk.q rfl rfl rfl (Qk.assign rfl) ?_
            refine Wk.q rfl rfl rfl (Qk.assign rfl) ?_
            refine Wk.next ?_
            refine Wc.assoc ?_
            refine Wc.assoc ?_
            refine Wc.region ?_
            refine Wk.q rfl rfl rfl (Qk.move rfl) ?_
            refine Wk.q rfl rfl rfl (Qk.not rfl) ?_
            refine Wk.q rfl rfl rfl (Qk.move rfl) ?_
            refine Wk.q rfl rfl rfl (Qk.move rfl) ?_
            refine Wk.q rfl rfl rfl (Qk.not rfl) ?_
            refine Wk.q rfl rfl rfl (Qk.pickF rfl rfl) ?_
            refine Wk.q rfl rfl rfl (Qk.move rfl) ?_
            refine Wk.q rfl rfl rfl (Qk.move rfl) ?_
            refine Wk.q rfl rfl rfl (Qk.not rfl) ?_
            refine Wk.q rfl rfl rfl (Qk.pickF rfl rfl) ?_
            refine Wk.q rfl rfl rfl (Qk.move rfl) ?_
            refine Wk.q rfl rfl rfl (Qk.move rfl) ?_
            refine Wk.q rfl rfl rfl (Qk.move rfl) ?_
            refine Wk.q rfl rfl rfl (Qk.move rfl) ?_
            refine Wk.q rfl rfl rfl (Qk.add rfl rfl (by omega)) ?_
            refine Wk.b rfl rfl rfl (Qk.bin rfl rfl rfl) fun b h93 => ?_
            obtain rfl : b = false := by rw [← h93, hval]; simp -- t93
            refine Wk.q rfl rfl rfl (Qk.pickF rfl rfl) ?_
            refine Wk.q rfl rfl rfl (Qk.move rfl) ?_
            refine Wk.q rfl rfl rfl (Qk.move rfl) ?_
            refine Wk.q rfl rfl rfl (Qk.move rfl) ?_
            refine Wk.q rfl rfl rfl (Qk.move rfl) ?_
            refine Wk.f rfl rfl rfl (Fk.buildSlice rfl bs54) ?_
            refine Wk.store' fun sy ey => ?_
            have hoiy : Old si sy := by subst ey; exact (Old.refl _).gpush _
            have hLy : sy.get si.size = some ⟨[.slice (some ⟨bx, 0, none⟩) nl.length nl.length, .slice (some ⟨bY, 0, none⟩) ml.length ml.length], .rw⟩ := by subst ey; exact gnew
            have hxr : IRow sy (.slice (some ⟨bx, 0, none⟩) nl.length nl.length) xs := by rw [← hxl]; exact IRow.of_get (hoiy.get hXi) (by simp) (Nat.le_refl _)
            have hyr : IRow sy (.slice (some ⟨bY, 0, none⟩) ml.length ml.length) ys := by rw [← hyl]; exact IRow.of_get (hoiy.get hYi) (by simp) (Nat.le_refl _)
            have hzrr : IRow sy (.slice (some ⟨bZ, 0, none⟩) (sideL nN mN nl ml).length (sideL nN mN nl ml).length) zs := by rw [← hzl]; exact IRow.of_get (hoiy.get hZx) (by simp) (Nat.le_refl _)
            have hL := pair_row (xs := xs) (ys := ys) hLy
            have hcat : catTo [((.slice (some ⟨bx, 0, none⟩) nl.length nl.length : Value), xs), (.slice (some ⟨bY, 0, none⟩) ml.length ml.length, ys)] 2 = xs ++ ys := by simp [catTo]
            refine Wk.c rfl rfl rfl (Ck.call rfl rfl) ((c10 hK (L := [(.slice (some ⟨bx, 0, none⟩) nl.length nl.length, xs), (.slice (some ⟨bY, 0, none⟩) ml.length ml.length, ys)]) hL (fun i hi => pair_rows hxr hyr i hi) (Nat.le_of_ble_eq_true rfl) (by show (catTo _ 2).length ≤ _; rw [hcat, List.length_append]; omega)).mono ?_)
            rintro cv sz ⟨boc, hgrc, hoyz⟩
            have hcr : IRow sz cv (xs ++ ys) := by
              have := hgrc.irow
              rwa [show catTo _ ([((.slice (some ⟨bx, 0, none⟩) nl.length nl.length : Value), xs), (.slice (some ⟨bY, 0, none⟩) ml.length ml.length, ys)] : List (Value × List Int)).length = xs ++ ys from hcat] at this
            have hoiz := hoiy.trans hoyz
            have hnz := hoiz.get hni
            have hmz := hoiz.get hmi
            have hzz := hoiz.get hzi
            have ho1z := ho1i.trans hoiz
            refine Wk.c rfl rfl rfl (Ck.call rfl rfl) ((c9 hK (hzrr.old hoyz) hcr (by rw [hzl, glue_len]; omega)).mono ?_)
            rintro _ sw ⟨rfl, e⟩
            have e' := e.symm
            subst e'
            have hxol := hxle.len
            have hyol := hyle.len
            have hzol := hzle.len
            have hxo : BRow sz (.slice (some ⟨bxo, 0, none⟩) nN.toNat nN.toNat) xo := by rw [← hxol]; exact BRow.of_get (hoiz.get hXoi) (by simp) (Nat.le_refl _)
            have hyo : BRow sz (.slice (some ⟨bYo, 0, none⟩) mN.toNat mN.toNat) yo := by rw [← hyol]; exact BRow.of_get (hoiz.get hYoi) (by simp) (Nat.le_refl _)
            have hso : BRow sz (.slice (some ⟨bZo, 0, none⟩) (nN + mN - 2).toNat (nN + mN - 2).toNat) zo := by rw [← hzol]; exact BRow.of_get (hoiz.get hZo) (by simp) (Nat.le_refl _)
            have hat := har.old (hoei.trans hoiz)
            refine Wk.b rfl rfl rfl (Qk.not rfl) fun b h102 => ?_
            obtain rfl : b = false := by rw [← h102, decide_eq_true hzeq]; rfl -- t102
            refine Wk.q rfl rfl rfl (Qk.pickF rfl rfl) ?_
            refine Wk.q rfl rfl rfl (Qk.move rfl) ?_
            refine Wk.q rfl rfl rfl (Qk.move rfl) ?_
            refine Wk.q rfl rfl rfl (Qk.lenR rfl rfl rfl hxo sl31) ?_
            refine Wk.q rfl rfl rfl (Qk.fa rfl fd24_0) ?_
            refine Wk.r rfl rfl rfl (Rk.cell rfl sh3 (by first | assumption | repeat (first | exact gnew | exact gsetn gnew | assumption | exact gsetn hd9 | refine gpush ?_ | refine gset ?_ (by simp; omega) )) (by simp) rfl) ?_
            refine Wk.b rfl rfl rfl (Qk.bin rfl rfl rfl) fun b h109 => ?_
            obtain rfl : b = false := by rw [← h109, hxol]; simp; omega -- t109
            refine Wk.q rfl rfl rfl (Qk.pickF rfl rfl) ?_
            refine Wk.q rfl rfl rfl (Qk.move rfl) ?_
            refine Wk.q rfl rfl rfl (Qk.move rfl) ?_
            refine Wk.q rfl rfl rfl (Qk.lenR rfl rfl rfl hyo sl31) ?_
            refine Wk.q rfl rfl rfl (Qk.fa rfl fd24_0) ?_
            refine Wk.r rfl rfl rfl (Rk.cell rfl sh3 (by first | assumption | repeat (first | exact gnew | exact gsetn gnew | assumption | exact gsetn hd9 | refine gpush ?_ | refine gset ?_ (by simp; omega) )) (by simp) rfl) ?_
            refine Wk.b rfl rfl rfl (Qk.bin rfl rfl rfl) fun b h116 => ?_
            obtain rfl : b = false := by rw [← h116, hyol]; simp; omega -- t116
            refine Wk.q rfl rfl rfl (Qk.pickF rfl rfl) ?_
            refine Wk.q rfl rfl rfl (Qk.move rfl) ?_
            refine Wk.q rfl rfl rfl (Qk.move rfl) ?_
            refine Wk.q rfl rfl rfl (Qk.lenR rfl rfl rfl hso sl31) ?_
            refine Wk.q rfl rfl rfl (Qk.fa rfl fd24_0) ?_
            refine Wk.r rfl rfl rfl (Rk.cell rfl sh3 (by first | assumption | repeat (first | exact gnew | exact gsetn gnew | assumption | exact gsetn hd9 | refine gpush ?_ | refine gset ?_ (by simp; omega) )) (by simp) rfl) ?_
            refine Wk.b rfl rfl rfl (Qk.bin rfl rfl rfl) fun b h123 => ?_
            obtain rfl : b = false := by rw [← h123, hzol]; simp; omega -- t123
            refine Wk.q rfl rfl rfl (Qk.pickF rfl rfl) ?_
            refine Wk.next ?_
            refine Wc.store fun s3 e3 => ?_
            refine Wc.condF rfl ?_
            refine Wc.skip ?_
            refine Wc.assoc ?_
            refine Wc.assoc ?_
            refine Wc.region ?_
            refine Wk.q rfl rfl rfl (Qk.assign rfl) ?_
            refine Wk.next ?_
            refine Wc.block ?_
            subst e3
            refine Wc.loop (σ := Nat) (fun i => (i : Int) ≤ nN - 1) (fun i => [(2, .pointer (some ⟨s.size, 0, none⟩)), (3, .pointer (some ⟨s.size + 1, 0, none⟩)), (7, av), (9, .slice (some ⟨bxo, 0, none⟩) nN.toNat nN.toNat), (10, .int .i64 (val nl (am xs))), (12, .slice (some ⟨bYo, 0, none⟩) mN.toNat mN.toNat), (13, .int .i64 (val ml (am ys))), (16, .slice (some ⟨bZo, 0, none⟩) (nN + mN - 2).toNat (nN + mN - 2).toNat), (19, .int .i64 i)]) (fun _ => s3) (fun i => nN.toNat - i) 0 (by omega)
              ⟨rfl, rfl, rfl, rfl, rfl, rfl, rfl, rfl, rfl, trivial⟩ rfl ?_
            rintro i hi
            refine Wc.assoc ?_
            refine Wc.assoc ?_
            refine Wc.region ?_
            refine Wk.q rfl rfl rfl (Qk.move rfl) ?_
            refine Wk.q rfl rfl rfl (Qk.fa rfl fd24_0) ?_
            refine Wk.r rfl rfl rfl (Rk.cell rfl sh3 (by first | assumption | repeat (first | exact gnew | exact gsetn gnew | assumption | exact gsetn hd9 | refine gpush ?_ | refine gset ?_ (by simp; omega) )) (by simp) rfl) ?_
            refine Wk.q rfl rfl rfl (Qk.sub rfl rfl (by omega)) ?_
            refine Wk.b rfl rfl rfl (Qk.bin rfl rfl rfl) fun b h129 => ?_
            cases b
            · -- t129 = False
              refine Wk.next ?_
              refine Wc.condF rfl ?_
              refine Wc.jump (fun _ _ => rfl) ?_
              refine Wc.assoc ?_
              refine Wc.assoc ?_
              refine Wc.region ?_
              refine Wk.q rfl rfl rfl (Qk.move rfl) ?_
              refine Wk.q rfl rfl rfl (Qk.lenR rfl rfl rfl hat sl28) ?_
              refine Wk.q rfl rfl rfl (Qk.move rfl) ?_
              refine Wk.next ?_
              refine Wc.block ?_
              have hatl : (nodeL (nN + mN - 2) mN (nN - 2) mN.toNat).length = mN.toNat := by simp [nodeL]
              refine Wc.loop (σ := Nat) (fun i => i ≤ (nodeL (nN + mN - 2) mN (nN - 2) mN.toNat).length) (fun i => [(2, .pointer (some ⟨s.size, 0, none⟩)), (3, .pointer (some ⟨s.size + 1, 0, none⟩)), (10, .int .i64 (val nl (am xs))), (12, .slice (some ⟨bYo, 0, none⟩) mN.toNat mN.toNat), (13, .int .i64 (val ml (am ys))), (16, .slice (some ⟨bZo, 0, none⟩) (nN + mN - 2).toNat (nN + mN - 2).toNat), (141, av), (142, goInt (nodeL (nN + mN - 2) mN (nN - 2) mN.toNat).length), (143, .int .i64 i)]) (fun _ => s3) (fun i => (nodeL (nN + mN - 2) mN (nN - 2) mN.toNat).length - i) 0 (Nat.zero_le _)
                ⟨rfl, rfl, rfl, rfl, rfl, rfl, rfl, rfl, rfl, trivial⟩ rfl ?_
              rintro i hi
              refine Wc.assoc ?_
              refine Wc.region ?_
              refine Wk.b rfl rfl rfl (Qk.bin rfl rfl rfl) fun b h144 => ?_
              cases b
              · -- t144 = False
                refine Wk.next ?_
                refine Wc.assoc ?_
                refine Wc.condF rfl ?_
                refine Wc.jump (fun _ _ => rfl) ?_
                refine Wc.assoc ?_
                refine Wc.assoc ?_
                refine Wc.region ?_
                refine Wk.r rfl rfl rfl (Rk.cells rfl sh24 (by first | assumption | repeat (first | exact gnew | exact gsetn gnew | assumption | exact gsetn hd9 | refine gpush ?_ | refine gset ?_ (by simp; omega) )) (by simp) (by simp)) ?_
                refine Wk.r rfl rfl rfl (Rk.cells rfl sh24 (by first | assumption | repeat (first | exact gnew | exact gsetn gnew | assumption | exact gsetn hd9 | refine gpush ?_ | refine gset ?_ (by simp; omega) )) (by simp) (by simp)) ?_
                refine Wk.c rfl rfl rfl (Ck.call rfl rfl) ((c11 hK hN hM (hn.old ho1z) (hm.old ho1z)).mono ?_)
                rintro _ sp ⟨bv, rfl, hbr, hop⟩
                have hnp := hop.get hnz
                have hmp := hop.get hmz
                have ho1p := ho1z.trans hop
                refine Wk.c rfl rfl rfl (Ck.call rfl rfl) ((c6 hK hbr).mono ?_)
                rintro _ sq ⟨e4', rfl, hbok, hoq⟩
                have hnq := hoq.get hnp
                have hmq := hoq.get hmp
                have ho1q := ho1p.trans hoq
                refine Wk.b rfl rfl rfl (Qk.bin rfl rfl rfl) fun b h162 => ?_
                cases b
                · -- t162 = False
                  have hB := hbok (eq_of_bne h162)
                  refine Wk.next ?_
                  refine Wc.condF rfl ?_
                  refine Wc.skip ?_
                  refine Wc.assoc ?_
                  refine Wc.region ?_
                  refine Wk.r rfl rfl rfl (Rk.cells rfl sh24 (by first | assumption | repeat (first | exact gnew | exact gsetn gnew | assumption | exact gsetn hd9 | refine gpush ?_ | refine gset ?_ (by simp; omega) )) (by simp) (by simp)) ?_
                  refine Wk.r rfl rfl rfl (Rk.cells rfl sh24 (by first | assumption | repeat (first | exact gnew | exact gsetn gnew | assumption | exact gsetn hd9 | refine gpush ?_ | refine gset ?_ (by simp; omega) )) (by simp) (by simp)) ?_
                  refine Wk.c rfl rfl rfl (Ck.call rfl rfl) ((c11 hK hN hM (hn.old ho1q) (hm.old ho1q)).mono ?_)
                  rintro _ sr ⟨bv2, rfl, hbr2, hor⟩
                  have hnr := hor.get hnq
                  have hmr := hor.get hmq
                  have ho1r := ho1q.trans hor
                  refine Wk.c rfl rfl rfl (Ck.call rfl rfl) ((c8 hK hB hbr2).mono ?_)
                  rintro _ st ⟨b5, b6, us, uo, rfl, _, _, hU, hUo, hul, hug, hule, hot⟩
                  have hnt := hot.get hnr
                  have hmt := hot.get hmr
                  have ho1t := ho1r.trans hot
                  refine Wk.q rfl rfl rfl (Qk.move rfl) ?_
                  refine Wk.q rfl rfl rfl (Qk.extract rfl rfl) ?_
                  refine Wk.q rfl rfl rfl (Qk.extract rfl rfl) ?_
                  refine Wk.q rfl rfl rfl (Qk.extract rfl rfl) ?_
                  refine Wk.b rfl rfl rfl (Qk.extract rfl rfl) fun b h171 => ?_
                  obtain rfl : b = true := by exact h171.symm -- t171
                  refine Wk.q rfl rfl rfl (Qk.assign rfl) ?_
                  refine Wk.q rfl rfl rfl (Qk.assign rfl) ?_
                  refine Wk.next ?_
                  refine Wc.assoc ?_
                  refine Wc.region ?_
                  refine Wk.r rfl rfl rfl (Rk.cells rfl sh24 (by first | assumption | repeat (first | exact gnew | exact gsetn gnew | assumption | exact gsetn hd9 | refine gpush ?_ | refine gset ?_ (by simp; omega) )) (by simp) (by simp)) ?_
                  refine Wk.r rfl rfl rfl (Rk.cells rfl sh24 (by first | assumption | repeat (first | exact gnew | exact gsetn gnew | assumption | exact gsetn hd9 | refine gpush ?_ | refine gset ?_ (by simp; omega) )) (by simp) (by simp)) ?_
                  refine Wk.c rfl rfl rfl (Ck.call rfl rfl) ((c11 hK hM hN (hm.old ho1t) (hn.old ho1t)).mono ?_)
                  rintro _ su ⟨bv3, rfl, hbr3, hou⟩
                  have hnu := hou.get hnt
                  have hmu := hou.get hmt
                  refine Wk.c rfl rfl rfl (Ck.call rfl rfl) ((c8 hK (beh_swap hN hM hB) hbr3).mono ?_)
                  rintro _ sv2 ⟨b7, b8, ts, to, rfl, _, _, hT, hTo, htl, htg, htle, hov⟩
                  have hlaw1 := beh_law hN hM hB hxg hyg hug
                  have hlaw2 := beh_law hM hN (beh_swap hN hM hB) hyg hxg htg
                  refine Wk.q rfl rfl rfl (Qk.move rfl) ?_
                  refine Wk.q rfl rfl rfl (Qk.extract rfl rfl) ?_
                  refine Wk.q rfl rfl rfl (Qk.extract rfl rfl) ?_
                  refine Wk.q rfl rfl rfl (Qk.extract rfl rfl) ?_
                  refine Wk.b rfl rfl rfl (Qk.extract rfl rfl) fun b h180 => ?_
                  obtain rfl : b = true := by exact h180.symm -- t180
                  refine Wk.q rfl rfl rfl (Qk.assign rfl) ?_
                  refine Wk.q rfl rfl rfl (Qk.assign rfl) ?_
                  refine Wk.q rfl rfl rfl (Qk.assign rfl) ?_
                  refine Wk.q rfl rfl rfl (Qk.assign rfl) ?_
                  refine Wk.next ?_
                  refine Wc.assoc ?_
                  refine Wc.region ?_
                  refine Wk.q rfl rfl rfl (Qk.move rfl) ?_
                  refine Wk.q rfl rfl rfl (Qk.move rfl) ?_
                  refine Wk.q rfl rfl rfl (Qk.move rfl) ?_
                  refine Wk.q rfl rfl rfl (Qk.pickT rfl rfl) ?_
                  refine Wk.q rfl rfl rfl (Qk.move rfl) ?_
                  refine Wk.q rfl rfl rfl (Qk.move rfl) ?_
                  refine Wk.q rfl rfl rfl (Qk.move rfl) ?_
                  refine Wk.q rfl rfl rfl (Qk.move rfl) ?_
                  refine Wk.q rfl rfl rfl (Qk.min2 rfl rfl rfl) ?_
                  refine Wk.b rfl rfl rfl (Qk.bin rfl rfl rfl) fun b h190 => ?_
                  obtain rfl : b = true := by rw [← h190, hlaw1]; simp; split <;> omega -- t190
                  refine Wk.q rfl rfl rfl (Qk.pickT rfl rfl) ?_
                  refine Wk.q rfl rfl rfl (Qk.move rfl) ?_
                  refine Wk.q rfl rfl rfl (Qk.move rfl) ?_
                  refine Wk.q rfl rfl rfl (Qk.move rfl) ?_
                  refine Wk.q rfl rfl rfl (Qk.bin rfl rfl rfl) ?_
                  refine Wk.q rfl rfl rfl (Qk.pickT rfl rfl) ?_
                  refine Wk.q rfl rfl rfl (Qk.assign rfl) ?_
                  refine Wk.next ?_
                  refine Wc.done'' (fun _ _ => rfl) rfl ?_
                  show Value.bool (val (behL mN ml nl) (am ts) == val (behL nN nl ml) (am us)) = .bool true
                  rw [hlaw1, hlaw2, Int.min_comm]
                  simp
                · -- t162 = True
                  refine Wk.next ?_
                  refine Wc.condT rfl ?_
                  refine Wc.assoc ?_
                  refine Wc.region ?_
                  refine Wk.q rfl rfl rfl (Qk.assign rfl) ?_
                  refine Wk.next ?_
                  refine Wc.done'' (fun _ _ => rfl) rfl ?_
                  rfl
              · -- t144 = True
                have hlt : i < (nodeL (nN + mN - 2) mN (nN - 2) mN.toNat).length := by
                  have : (i : Int) < ((nodeL (nN + mN - 2) mN (nN - 2) mN.toNat).length : Int) := of_decide_eq_true h144
                  omega
                have hati : (nodeL (nN + mN - 2) mN (nN - 2) mN.toNat).getD (i : Int).toNat 0 = psi nN mN i := by
                  have h2 : i < mN.toNat := by omega
                  simp only [nodeL, List.getD, Int.toNat_natCast, List.getElem?_map, List.getElem?_range h2, Option.map_some, Option.getD_some]
                have hpr := psi_range (nN := nN) (mN := mN) (u := (i : Int)) hN1 hM1 (by omega) (by omega)
                rw [← hati] at hpr
                refine Wk.next ?_
                refine Wc.assoc ?_
                refine Wc.condT rfl ?_
                refine Wc.skip ?_
                refine Wc.assoc ?_
                refine Wc.block ?_
                refine Wc.assoc ?_
                refine Wc.region ?_
                refine Wk.q rfl rfl rfl (Qk.move rfl) ?_
                refine Wk.q rfl rfl rfl (Qk.at rfl rfl ar28 sl28 hat (by constructor <;> omega)) ?_
                refine Wk.r rfl rfl rfl (Rk.intR rfl sh3 hat (by omega)) ?_
                refine Wk.q rfl rfl rfl (Qk.assign rfl) ?_
                refine Wk.q rfl rfl rfl (Qk.assign rfl) ?_
                refine Wk.next ?_
                refine Wc.assoc ?_
                refine Wc.draw0 rfl ?_
                refine Wd.q rfl rfl rfl (Qk.move rfl) ?_
                refine Wd.q rfl rfl rfl (Qk.move rfl) ?_
                refine Wd.q rfl rfl rfl (Qk.at rfl rfl ar31 sl31 hso (by constructor <;> omega)) ?_
                refine Wd.r rfl rfl rfl (Rk.boolR rfl sh4 hso (by omega)) rfl ?_
                refine Wd.q rfl rfl rfl (Qk.move rfl) ?_
                refine Wd.q rfl rfl rfl (Qk.move rfl) ?_
                refine Wd.q rfl rfl rfl (Qk.at rfl rfl ar31 sl31 hyo (by constructor <;> omega)) ?_
                refine Wd.r rfl rfl rfl (Rk.boolR rfl sh4 hyo (by omega)) rfl ?_
                refine Wd.b rfl rfl rfl (Qk.bin rfl rfl neq156) fun b h156 => ?_
                obtain rfl : b = false := by rw [← h156]; exact bne_false (show inB zo ((nodeL (nN + mN - 2) mN (nN - 2) mN.toNat).getD (i : Int).toNat 0) = inB yo i by rw [hati]; exact hsy i (by omega) (by omega)) -- t156
                refine Wd.next ?_
                refine Wc.condF rfl ?_
                refine Wc.skip ?_
                refine Wc.thence (fun _ _ => rfl) ?_
                refine Wc.region ?_
                refine Wk.q rfl rfl rfl (Qk.add rfl rfl (by omega)) ?_
                refine Wk.q rfl rfl rfl (Qk.move rfl) ?_
                refine Wk.next ?_
                refine Wc.finish fun fr hf => ?_
                exact ⟨i + 1, hlt, by omega, rfl, hf.less ⟨rfl, rfl, rfl, rfl, rfl, rfl, rfl, rfl, rfl, trivial⟩⟩
            · -- t129 = True
              have hlt : (i : Int) < nN - 1 := of_decide_eq_true h129
              have hphi : phi nN mN i = i := by
                unfold phi nodeOf
                rw [if_neg (by omega)]
                split <;> omega
              refine Wk.next ?_
              refine Wc.condT rfl ?_
              refine Wc.skip ?_
              refine Wc.assoc ?_
              refine Wc.block ?_
              refine Wc.assoc ?_
              refine Wc.draw0 rfl ?_
              refine Wd.q rfl rfl rfl (Qk.move rfl) ?_
              refine Wd.q rfl rfl rfl (Qk.move rfl) ?_
              refine Wd.q rfl rfl rfl (Qk.at rfl rfl ar31 sl31 hso (by constructor <;> omega)) ?_
              refine Wd.r rfl rfl rfl (Rk.boolR rfl sh4 hso (by omega)) rfl ?_
              refine Wd.q rfl rfl rfl (Qk.move rfl) ?_
              refine Wd.q rfl rfl rfl (Qk.move rfl) ?_
              refine Wd.q rfl rfl rfl (Qk.at rfl rfl ar31 sl31 hxo (by constructor <;> omega)) ?_
              refine Wd.r rfl rfl rfl (Rk.boolR rfl sh4 hxo (by omega)) rfl ?_
              refine Wd.b rfl rfl rfl (Qk.bin rfl rfl neq140) fun b h140 => ?_
              obtain rfl : b = false := by rw [← h140]; exact bne_false (show inB zo i = inB xo i by rw [← hsx i (by omega) (by omega), hphi]) -- t140
              refine Wd.next ?_
              refine Wc.condF rfl ?_
              refine Wc.skip ?_
              refine Wc.thence (fun _ _ => rfl) ?_
              refine Wc.region ?_
              refine Wk.q rfl rfl rfl (Qk.move rfl) ?_
              refine Wk.q rfl rfl rfl (Qk.add rfl rfl (by omega)) ?_
              refine Wk.q rfl rfl rfl (Qk.assign rfl) ?_
              refine Wk.next ?_
              refine Wc.finish fun fr hf => ?_
              exact ⟨i + 1, by omega, by omega, rfl, hf.less ⟨rfl, rfl, rfl, rfl, rfl, rfl, rfl, rfl, rfl, trivial⟩⟩
          · -- t55 = True
            refine Wk.next ?_
            refine Wc.condT rfl ?_
            refine Wc.assoc ?_
            refine Wc.region ?_
            refine Wk.q rfl rfl rfl (Qk.move rfl) ?_
            refine Wk.q rfl rfl rfl (Qk.assign rfl) ?_
            refine Wk.next ?_
            refine Wc.done'' (fun _ _ => rfl) rfl ?_
            rfl
        · -- t44 = True
          refine Wk.q rfl rfl rfl (Qk.pickF rfl rfl) ?_
          refine Wk.next ?_
          refine Wc.condT rfl ?_
          refine Wc.assoc ?_
          refine Wc.region ?_
          refine Wk.q rfl rfl rfl (Qk.move rfl) ?_
          refine Wk.q rfl rfl rfl (Qk.assign rfl) ?_
          refine Wk.next ?_
          refine Wc.done'' (fun _ _ => rfl) rfl ?_
          rfl
      · -- t39 = True
        refine Wk.q rfl rfl rfl (Qk.pickF rfl rfl) ?_
        refine Wk.q rfl rfl rfl (Qk.move rfl) ?_
        refine Wk.no rfl rfl rfl ?_
        refine Wk.no rfl rfl rfl ?_
        refine Wk.no rfl rfl rfl ?_
        refine Wk.q rfl rfl rfl (Qk.pickT rfl rfl) ?_
        refine Wk.next ?_
        refine Wc.condT rfl ?_
        refine Wc.assoc ?_
        refine Wc.region ?_
        refine Wk.q rfl rfl rfl (Qk.move rfl) ?_
        refine Wk.q rfl rfl rfl (Qk.assign rfl) ?_
        refine Wk.next ?_
        refine Wc.done'' (fun _ _ => rfl) rfl ?_
        rfl
    · -- t35 = True
      refine Wk.q rfl rfl rfl (Qk.move rfl) ?_
      refine Wk.no rfl rfl rfl ?_
      refine Wk.no rfl rfl rfl ?_
      refine Wk.no rfl rfl rfl ?_
      refine Wk.q rfl rfl rfl (Qk.pickT rfl rfl) ?_
      refine Wk.q rfl rfl rfl (Qk.move rfl) ?_
      refine Wk.no rfl rfl rfl ?_
      refine Wk.no rfl rfl rfl ?_
      refine Wk.no rfl rfl rfl ?_
      refine Wk.q rfl rfl rfl (Qk.pickT rfl rfl) ?_
      refine Wk.next ?_
      refine Wc.condT rfl ?_
      refine Wc.assoc ?_
      refine Wc.region ?_
      refine Wk.q rfl rfl rfl (Qk.move rfl) ?_
      refine Wk.q rfl rfl rfl (Qk.assign rfl) ?_
      refine Wk.next ?_
      refine Wc.done'' (fun _ _ => rfl) rfl ?_
      rfl
  · -- t31 = True
    refine Wk.q rfl rfl rfl (Qk.move rfl) ?_
    refine Wk.no rfl rfl rfl ?_
    refine Wk.no rfl rfl rfl ?_
    refine Wk.q rfl rfl rfl (Qk.pickT rfl rfl) ?_
    refine Wk.q rfl rfl rfl (Qk.move rfl) ?_
    refine Wk.no rfl rfl rfl ?_
    refine Wk.no rfl rfl rfl ?_
    refine Wk.no rfl rfl rfl ?_
    refine Wk.q rfl rfl rfl (Qk.pickT rfl rfl) ?_
    refine Wk.q rfl rfl rfl (Qk.move rfl) ?_
    refine Wk.no rfl rfl rfl ?_
    refine Wk.no rfl rfl rfl ?_
    refine Wk.no rfl rfl rfl ?_
    refine Wk.q rfl rfl rfl (Qk.pickT rfl rfl) ?_
    refine Wk.next ?_
    refine Wc.condT rfl ?_
    refine Wc.assoc ?_
    refine Wc.region ?_
    refine Wk.q rfl rfl rfl (Qk.move rfl) ?_
    refine Wk.q rfl rfl rfl (Qk.assign rfl) ?_
    refine Wk.next ?_
    refine Wc.done'' (fun _ _ => rfl) rfl ?_
    rfl
end Go.Proofs.Ytgkmpidihgbkdaa
