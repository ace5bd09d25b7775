/- What stays as it is: alive29. -/
import Derived.Test.YtgkmpidihgbkdaaJAB
import Derived.Test.YtgkmpidihgbkdaaJY
namespace Go.Proofs.Ytgkmpidihgbkdaa
open Go.Abs

theorem late0 : Late none0 := fun _ _ _ => rfl

theorem bs31 : abuildSlice Try.prog 31 2 [(0, .bool true), (1, .bool true)] = some ([.bool true, .bool true], fun d => .slice (some ⟨d, 0, none⟩) 2 2) := by
  have e1 : ∀ b, (Value.bool b).cells = #[.bool b] := fun _ => rfl
  have e2 : ∀ b, isVal (.bool b) = true := fun _ => rfl
  simp [abuildSlice, sl31, ze4, e1, e2, afill, copies, splice]
theorem bs28 {a b : Int} : abuildSlice Try.prog 28 2 [(0, .int .i64 a), (1, .int .i64 b)] = some (ic [a, b], fun d => .slice (some ⟨d, 0, none⟩) 2 2) := by
  have e1 : ∀ b, (Value.int .i64 b).cells = #[.int .i64 b] := fun _ => rfl
  have e2 : ∀ b, isVal (.int .i64 b) = true := fun _ => rfl
  simp [abuildSlice, sl28, ze3, e1, e2, afill, copies, splice, ic]
theorem bs38 {b c n m : Nat} : abuildSlice Try.prog 38 2 [(0, .slice (some ⟨b, 0, none⟩) n n), (1, .slice (some ⟨c, 0, none⟩) m m)] = some ([.slice (some ⟨b, 0, none⟩) n n, .slice (some ⟨c, 0, none⟩) m m], fun d => .slice (some ⟨d, 0, none⟩) 2 2) := by
  have e0 : (Value.slice none 0 0).cells = #[.slice none 0 0] := rfl
  have e1 : ∀ b n, (Value.slice (some ⟨b, 0, none⟩) n n).cells = #[.slice (some ⟨b, 0, none⟩) n n] := fun _ _ => rfl
  have e2 : ∀ b n, isVal (.slice (some ⟨b, 0, none⟩) n n) = true := fun _ _ => rfl
  simp [abuildSlice, sl38, ze31, e0, e1, e2, afill, copies, splice]

abbrev arcs29 : List Arc := outA 2 ++ endA 2
theorem net29 : NetOk 6 arcs29 := ⟨by decide, by decide, by decide, by decide⟩
theorem val29 {x : Nat → Int} (h : Gr 6 arcs29 x) : val arcs29 x = 2 := by
  have h1 := val_le_cut net29 h.flow (S := only 0) ⟨rfl, rfl⟩
  have h2 : cutOf arcs29 (only 0) = 2 := by decide
  have hf : IsFlow 6 arcs29 (am [1, 1, 0, 1, 0, 1, 1, 1]) := by
    refine ⟨by unfold inRange; decide, fun v h0 hv => ?_⟩
    have : v = 1 ∨ v = 2 ∨ v = 3 ∨ v = 4 := by omega
    rcases this with rfl | rfl | rfl | rfl <;> decide
  have h3 : val arcs29 (am [1, 1, 0, 1, 0, 1, 1, 1]) = 2 := by decide
  obtain ⟨S, hS, e⟩ := h.cut
  have h4 := val_le_cut net29 hf hS
  omega

set_option maxRecDepth 100000 in
theorem c16 {K : Known} (hK : Late K) {av bv : Value} {xs ys : List Int} {s : St} (ha : IRow s av xs) (hb : IRow s bv ys) (hal : xs.length < 2 ^ 40) :
    Ev Try.prog K (.func (.func 16) #[] #[]) [av, bv] s fun r s' => r = .bool (decide (xs = ys)) ∧ s' = s := by
  refine Ev.enterK (hK.none (by decide) _) Try.func16 rfl rfl (Nat.le_of_ble_eq_true rfl) ?_
  refine Wc.tail ?_
  refine Wc.assoc ?_
  refine Wc.region ?_
  refine Wk.q rfl rfl rfl (Qk.assign rfl) ?_
  refine Wk.next ?_
  refine Wc.assoc ?_
  refine Wc.assoc ?_
  refine Wc.region ?_
  refine Wk.q rfl rfl rfl (Qk.move rfl) ?_
  refine Wk.q rfl rfl rfl (Qk.lenR rfl rfl rfl ha sl28) ?_
  refine Wk.q rfl rfl rfl (Qk.move rfl) ?_
  refine Wk.q rfl rfl rfl (Qk.lenR rfl rfl rfl hb sl28) ?_
  refine Wk.b rfl rfl rfl (Qk.bin rfl rfl rfl) fun b h10 => ?_
  cases b
  · -- t10 = False
    have hlen : xs.length = ys.length := by
      have h : ((xs.length : Int) != (ys.length : Int)) = false := h10
      have h2 : (xs.length : Int) = ys.length := by simpa using h
      omega
    refine Wk.next ?_
    refine Wc.condF rfl ?_
    refine Wc.skip ?_
    refine Wc.assoc ?_
    refine Wc.assoc ?_
    refine Wc.region ?_
    refine Wk.q rfl rfl rfl (Qk.assign rfl) ?_
    refine Wk.next ?_
    refine Wc.block ?_
    refine Wc.loop (σ := Nat) (fun i => i ≤ xs.length ∧ ∀ j, j < i → xs.getD j 0 = ys.getD j 0) (fun i => [(0, av), (1, bv), (5, .int .i64 i)]) (fun _ => s) (fun i => xs.length - i) 0 ⟨Nat.zero_le _, fun j hj => absurd hj (Nat.not_lt_zero _)⟩ ⟨rfl, rfl, rfl, trivial⟩ rfl ?_
    rintro i ⟨hi, heq⟩
    have hos := Old.refl s
    refine Wc.assoc ?_
    refine Wc.assoc ?_
    refine Wc.region ?_
    refine Wk.q rfl rfl rfl (Qk.move rfl) ?_
    refine Wk.q rfl rfl rfl (Qk.move rfl) ?_
    refine Wk.q rfl rfl rfl (Qk.lenR rfl rfl rfl ha sl28) ?_
    refine Wk.b rfl rfl rfl (Qk.bin rfl rfl rfl) fun b h14 => ?_
    cases b
    · -- t14 = False
      refine Wk.next ?_
      refine Wc.condF rfl ?_
      refine Wc.jump (fun _ _ => rfl) ?_
      refine Wc.assoc ?_
      refine Wc.region ?_
      refine Wk.q rfl rfl rfl (Qk.assign rfl) ?_
      refine Wk.next ?_
      refine Wc.done'' (fun _ _ => rfl) rfl ?_
      have hge : xs.length ≤ i := by
        have : ¬ ((i : Int) < (xs.length : Int)) := of_decide_eq_false h14
        omega
      refine ⟨?_, rfl⟩
      rw [show xs = ys from ext_getD hlen fun j hj => heq j (by omega)]
      simp [pack]
    · -- t14 = True
      have hlt : i < xs.length := by
        have : (i : Int) < (xs.length : Int) := of_decide_eq_true h14
        omega
      refine Wk.next ?_
      refine Wc.condT rfl ?_
      refine Wc.skip ?_
      refine Wc.assoc ?_
      refine Wc.block ?_
      refine Wc.assoc ?_
      refine Wc.draw0 rfl ?_
      refine Wd.q rfl rfl rfl (Qk.move rfl) ?_
      refine Wd.q rfl rfl rfl (Qk.move rfl) ?_
      refine Wd.q rfl rfl rfl (Qk.at rfl rfl ar28 sl28 (ha.old (by assumption)) (by constructor <;> omega)) ?_
      refine Wd.r rfl rfl rfl (Rk.intR rfl sh3 (ha.old (by assumption)) (i := i) (by omega)) rfl ?_
      refine Wd.q rfl rfl rfl (Qk.move rfl) ?_
      refine Wd.q rfl rfl rfl (Qk.move rfl) ?_
      refine Wd.q rfl rfl rfl (Qk.at rfl rfl ar28 sl28 (hb.old (by assumption)) (by constructor <;> omega)) ?_
      refine Wd.r rfl rfl rfl (Rk.intR rfl sh3 (hb.old (by assumption)) (i := i) (by omega)) rfl ?_
      refine Wd.b rfl rfl rfl (Qk.bin rfl rfl rfl) fun b h25 => ?_
      cases b
      · -- t25 = False
        refine Wd.next ?_
        refine Wc.condF rfl ?_
        refine Wc.skip ?_
        refine Wc.thence (fun _ _ => rfl) ?_
        refine Wc.region ?_
        refine Wk.q rfl rfl rfl (Qk.move rfl) ?_
        refine Wk.q rfl rfl rfl (Qk.add rfl rfl (by omega)) ?_
        refine Wk.q rfl rfl rfl (Qk.assign rfl) ?_
        refine Wk.next ?_
        refine Wc.finish fun fr hf => ?_
        refine ⟨i + 1, ⟨hlt, fun j hj => ?_⟩, by omega, rfl, hf.less ⟨rfl, rfl, rfl, trivial⟩⟩
        by_cases e : j = i
        · subst e
          have h : (xs.getD j 0 != ys.getD j 0) = false := h25
          exact eq_of_bne h
        · exact heq j (by omega)
      · -- t25 = True
        refine Wd.next ?_
        refine Wc.condT rfl ?_
        refine Wc.assoc ?_
        refine Wc.region ?_
        refine Wk.q rfl rfl rfl (Qk.assign rfl) ?_
        refine Wk.next ?_
        refine Wc.done'' (fun _ _ => rfl) rfl ?_
        refine ⟨?_, rfl⟩
        have h : (xs.getD i 0 != ys.getD i 0) = true := h25
        rw [decide_eq_false (fun e => by rw [e, bne_self_eq_false] at h; cases h)]
        rfl
  · -- t10 = True
    refine Wk.next ?_
    refine Wc.condT rfl ?_
    refine Wc.assoc ?_
    refine Wc.region ?_
    refine Wk.q rfl rfl rfl (Qk.assign rfl) ?_
    refine Wk.next ?_
    refine Wc.done'' (fun _ _ => rfl) rfl ?_
    refine ⟨?_, rfl⟩
    have h : ((xs.length : Int) != (ys.length : Int)) = true := h10
    rw [decide_eq_false (fun e => by rw [e, bne_self_eq_false] at h; cases h)]
    rfl

set_option maxHeartbeats 4000000 in
set_option maxRecDepth 100000 in
theorem c4 : Ev Try.prog none0 (.func (.func 4) #[] #[]) [] ⟨[], []⟩ fun r _ => r = .bool true := by
  have hK := late0
  refine Ev.enterK (by simp [known, none0]) Try.func4 rfl rfl (Nat.le_of_ble_eq_true rfl) ?_
  refine Wc.tail ?_
  refine Wc.assoc ?_
  refine Wc.region ?_
  refine Wk.q rfl rfl rfl (Qk.assign rfl) ?_
  refine Wk.next ?_
  refine Wc.assoc ?_
  refine Wc.region ?_
  refine Wk.f rfl rfl rfl (Fk.buildSlice rfl bs31) ?_
  refine Wk.f rfl rfl rfl (Fk.buildSlice rfl bs31) ?_
  refine Wk.f rfl rfl rfl (Fk.buildSlice rfl bs38) ?_
  refine Wk.q rfl rfl rfl (Qk.assign rfl) ?_
  refine Wk.next ?_
  refine Wc.store fun s1 e1 => ?_
  have e1' : s1 = evenSt := e1
  subst e1'
  refine Wc.weaken (k' := [(1, .slice (some ⟨2, 0, none⟩) 2 2)]) ⟨rfl, trivial⟩ ?_
  refine Wc.assoc ?_
  refine Wc.region ?_
  refine Wk.q rfl rfl rfl (Qk.move rfl) ?_
  refine Wk.c rfl rfl rfl (Ck.call rfl rfl) ((even_ev).mono ?_)
  rintro _ sa ⟨be, rfl, hE, g0, g1, g2⟩
  have hWa := even_row g2
  have hBa := even_rows g0 g1
  have hEa : IRow sa (.slice (some ⟨be, 0, none⟩) 2 2) [0, 1] := IRow.of_get (l := [0, 1]) hE (by simp) (Nat.le_refl _)
  refine Wk.q rfl rfl rfl (Qk.move rfl) ?_
  refine Wk.q rfl rfl rfl (Qk.extract rfl rfl) ?_
  refine Wk.q rfl rfl rfl (Qk.extract rfl rfl) ?_
  refine Wk.q rfl rfl rfl (Qk.assign rfl) ?_
  refine Wk.q rfl rfl rfl (Qk.assign rfl) ?_
  refine Wk.next ?_
  refine Wc.assoc ?_
  refine Wc.region ?_
  refine Wk.q rfl rfl rfl (Qk.move rfl) ?_
  refine Wk.f rfl rfl rfl (Fk.buildSlice rfl bs28) ?_
  refine Wk.store' fun sb eb => ?_
  have hob : Old sa sb := by subst eb; exact Old.push _ _
  have hMb : IRow sb (.slice (some ⟨sa.size, 0, none⟩) 2 2) [1, 1] := by subst eb; exact IRow.of_get (l := [1, 1]) gnew (by simp) (Nat.le_refl _)
  refine Wk.c rfl rfl rfl (Ck.call rfl rfl) ((c14 hK (Row.old hob hWa) (fun i hi => (hBa i hi).old hob) hMb).mono ?_)
  rintro _ sc ⟨v1, rfl, hA1, hoc⟩
  refine Wk.c rfl rfl rfl (Ck.call rfl rfl) ((c13 hK net29 hA1).mono ?_)
  rintro _ sd ⟨bx, xs, rfl, hbx, hX, hxl, hgr, hod⟩
  refine Wk.q rfl rfl rfl (Qk.move rfl) ?_
  refine Wk.q rfl rfl rfl (Qk.extract rfl rfl) ?_
  refine Wk.q rfl rfl rfl (Qk.extract rfl rfl) ?_
  refine Wk.q rfl rfl rfl (Qk.assign rfl) ?_
  refine Wk.q rfl rfl rfl (Qk.assign rfl) ?_
  refine Wk.next ?_
  refine Wc.store fun s2 e2 => ?_
  subst e2
  have hosd := (hob.trans hoc).trans hod
  refine Wc.assoc ?_
  refine Wc.region ?_
  refine Wk.q rfl rfl rfl (Qk.move rfl) ?_
  refine Wk.f rfl rfl rfl (Fk.buildSlice rfl bs28) ?_
  refine Wk.store' fun se ee => ?_
  have hoe : Old s2 se := by subst ee; exact Old.push _ _
  have hMe : IRow se (.slice (some ⟨s2.size, 0, none⟩) 2 2) [1, 1] := by subst ee; exact IRow.of_get (l := [1, 1]) gnew (by simp) (Nat.le_refl _)
  have hose := hosd.trans hoe
  refine Wk.c rfl rfl rfl (Ck.call rfl rfl) ((c14 hK (Row.old hose hWa) (fun i hi => (hBa i hi).old hose) hMe).mono ?_)
  rintro _ sg ⟨v2, rfl, hA2, hog⟩
  have hXg := (hoe.trans hog).get hX
  have hxr : IRow sg (.slice (some ⟨bx, 0, none⟩) (outA 2 ++ endA 2).length (outA 2 ++ endA 2).length) xs := by rw [← hxl]; exact IRow.of_get hXg (by simp) (Nat.le_refl _)
  refine Wk.q rfl rfl rfl (Qk.move rfl) ?_
  refine Wk.c rfl rfl rfl (Ck.call rfl rfl) ((c15 hK net29 hA2 hxr hxl hgr.flow).mono ?_)
  rintro _ sh ⟨rfl, hoh⟩
  refine Wk.q rfl rfl rfl (Qk.move rfl) ?_
  refine Wk.q rfl rfl rfl (Qk.extract rfl rfl) ?_
  refine Wk.q rfl rfl rfl (Qk.extract rfl rfl) ?_
  refine Wk.q rfl rfl rfl (Qk.assign rfl) ?_
  refine Wk.q rfl rfl rfl (Qk.assign rfl) ?_
  refine Wk.next ?_
  refine Wc.store fun s3 e3 => ?_
  subst e3
  have hosh := (hose.trans hog).trans hoh
  refine Wc.assoc ?_
  refine Wc.region ?_
  refine Wk.q rfl rfl rfl (Qk.move rfl) ?_
  refine Wk.b rfl rfl rfl (Qk.bin rfl rfl rfl) fun b h32 => ?_
  obtain rfl : b = true := by exact h32.symm -- t32
  refine Wk.q rfl rfl rfl (Qk.move rfl) ?_
  refine Wk.q rfl rfl rfl (Qk.move rfl) ?_
  refine Wk.f rfl rfl rfl (Fk.buildSlice rfl bs28) ?_
  refine Wk.store' fun si ei => ?_
  have hoi : Old s3 si := by subst ei; exact Old.push _ _
  have hFi : IRow si (.slice (some ⟨s3.size, 0, none⟩) 2 2) [0, 1] := by subst ei; exact IRow.of_get (l := [0, 1]) gnew (by simp) (Nat.le_refl _)
  refine Wk.c rfl rfl rfl (Ck.call rfl rfl) ((c16 hK (hEa.old (hosh.trans hoi)) hFi (by decide)).mono ?_)
  rintro _ sj ⟨rfl, _⟩
  skip
  refine Wk.b rfl rfl rfl (Qk.pickT rfl rfl) fun b h37 => ?_
  obtain rfl : b = true := by exact h37.symm -- t37
  refine Wk.q rfl rfl rfl (Qk.move rfl) ?_
  refine Wk.q rfl rfl rfl (Qk.move rfl) ?_
  refine Wk.b rfl rfl rfl (Qk.bin rfl rfl rfl) fun b h40 => ?_
  obtain rfl : b = true := by exact h40.symm -- t40
  refine Wk.q rfl rfl rfl (Qk.pickT rfl rfl) ?_
  refine Wk.q rfl rfl rfl (Qk.move rfl) ?_
  refine Wk.q rfl rfl rfl (Qk.move rfl) ?_
  refine Wk.b rfl rfl rfl (Qk.bin rfl rfl rfl) fun b h44 => ?_
  obtain rfl : b = true := by exact h44.symm -- t44
  refine Wk.q rfl rfl rfl (Qk.pickT rfl rfl) ?_
  refine Wk.q rfl rfl rfl (Qk.move rfl) ?_
  refine Wk.q rfl rfl rfl (Qk.move rfl) ?_
  refine Wk.q rfl rfl rfl (Qk.bin rfl rfl rfl) ?_
  refine Wk.q rfl rfl rfl (Qk.pickT rfl rfl) ?_
  refine Wk.q rfl rfl rfl (Qk.assign rfl) ?_
  refine Wk.next ?_
  refine Wc.store fun s4 e4 => ?_
  refine Wc.done'' (fun _ _ => rfl) rfl ?_
  show Value.bool (val (outA 2 ++ endA 2) (am xs) == 2) = .bool true
  rw [val29 hgr]
  rfl
end Go.Proofs.Ytgkmpidihgbkdaa
