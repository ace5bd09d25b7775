/- Proved: TopShifted returns true whatever flat, cents and orders it is handed, and all read behind the call as they read before.
   Conditions: none; the statement is the given one, for every input. -/
import Derived.Test.YtfgnjndicidpkaaRows
import Derived.Test.YtfgnjndicidpkaaSZ2
import Derived.Test.YtfgnjndicidpkaaSK
import Derived.Test.YtfgnjndicidpkaaAbsTop
import Derived.WalkKit
import Derived.ProofKit
import Derived.OpenShut
import Derived.ShutString
import Derived.ChangeOld
import Derived.Below
namespace Go.Proofs.Ytfgnjndicidpkaa
open Go.ChangeShapes Go.WideShapes Go.ChangeAt Go.RowKit
open Go.Abs

theorem own : ownKnob Try.prog.godebug = none := by kernel_rfl
theorem laidOut : laidOutB Try.prog = true := by kernel_rfl

/-! ### What is known ahead -/

abbrev K0 : Known := Abs.knows 4 (.bool true) none0
abbrev K1 : Known := Abs.carries 69 70 K0
theorem k0_no {k : Nat} {args : List Value} (h : k ≠ 4) : K0 k args = none := by
  show (if k = 4 ∧ args = [] then some (Value.bool true) else none0 k args) = none
  rw [if_neg (fun e => h e.1)]; rfl
theorem k1_no {k : Nat} {args : List Value} (h : k ≠ 4 ∧ k ≠ 69 ∧ k ≠ 70) : K1 k args = none := by
  show Abs.carries 69 70 K0 k args = none
  unfold Abs.carries
  split
  · split
    · rw [if_neg h.2.1, if_neg (fun e => h.2.2 e.1)]
      exact k0_no h.1
    · exact k0_no h.1
  · exact k0_no h.1
theorem k1_late : Late K1 where
  no := fun k args hk => k1_no ⟨fun e => absurd hk.1 (by rw [e]; decide), hk.2.1, hk.2.2⟩
  sum := fun x y c h => by
    show (if 0 ≤ x ∧ 0 ≤ y ∧ 0 ≤ c ∧ c ≤ 1 then _ else _) = _
    rw [if_pos h, if_pos rfl]
  dif := fun x y c h => by
    show (if 0 ≤ x ∧ 0 ≤ y ∧ 0 ≤ c ∧ c ≤ 1 then _ else _) = _
    rw [if_pos ⟨h.1, h.2.1, h.2.2.1, h.2.2.2.1⟩, if_neg (by decide), if_pos ⟨rfl, h.2.2.2.2.1, h.2.2.2.2.2⟩]
theorem k1_four : K1 4 [] = some (.bool true) := rfl
theorem k1_three (args : List Value) : K1 3 args = none := k1_no ⟨by decide, by decide, by decide⟩
theorem k1_ok : KnownOk Try.prog K1 := by
  obtain ⟨n, v, s', h, rfl⟩ := alive_ev
  exact (KnownOk.knows Abs.fit knownOk_none h rfl).carries Try.func69 (by kernel_rfl) rfl (by kernel_rfl) (by kernel_rfl) Try.func70 (by kernel_rfl) rfl (by kernel_rfl) (by kernel_rfl)

/-! ### What comes in -/

theorem cells3 : Try.prog.cellsOf 3 = 1 := by kernel_rfl
theorem cells5 : Try.prog.cellsOf 5 = 1 := by kernel_rfl
theorem cells22 : Try.prog.cellsOf 22 = 1 := by kernel_rfl
theorem cells24 : Try.prog.cellsOf 24 = 2 := by kernel_rfl
theorem cells25 : Try.prog.cellsOf 25 = 6 := by kernel_rfl
theorem cells26 : Try.prog.cellsOf 26 = 8 := by kernel_rfl
theorem cells29 : Try.prog.cellsOf 29 = 1 := by kernel_rfl
theorem plain24 : plainTy Try.prog 5 24 = true := by kernel_rfl
theorem plain25 : plainTy Try.prog 5 25 = true := by kernel_rfl
theorem plain26 : plainTy Try.prog 5 26 = true := by kernel_rfl

theorem rd_int {s : St} {cs : List Value} (h : Rd Try.prog s 3 cs) : ∃ i, cs = [.int .i64 i] := by
  cases h with
  | int hu _ => rw [Try.underlying3] at hu; cases hu; exact ⟨_, rfl⟩
  | bool hu => rw [Try.underlying3] at hu; cases hu
  | nil hu => rw [Try.underlying3] at hu; cases hu
  | empty hu => rw [Try.underlying3] at hu; cases hu
  | slice hu => rw [Try.underlying3] at hu; cases hu
  | struct hu => rw [Try.underlying3] at hu; cases hu
  | array hu => rw [Try.underlying3] at hu; cases hu
theorem rd_u8 {s : St} {cs : List Value} (h : Rd Try.prog s 5 cs) : ∃ i, cs = [.int .u8 i] ∧ 0 ≤ i ∧ i ≤ 255 := by
  cases h with
  | @int _ k i hu hw =>
    rw [Try.underlying5] at hu; cases hu
    refine ⟨i, rfl, ?_⟩
    simp [Lit.wf] at hw
    have e1 : IntKind.u8.min = 0 := rfl
    have e2 : IntKind.u8.max = 255 := rfl
    omega
  | bool hu => rw [Try.underlying5] at hu; cases hu
  | nil hu => rw [Try.underlying5] at hu; cases hu
  | empty hu => rw [Try.underlying5] at hu; cases hu
  | slice hu => rw [Try.underlying5] at hu; cases hu
  | struct hu => rw [Try.underlying5] at hu; cases hu
  | array hu => rw [Try.underlying5] at hu; cases hu

theorem okWide_array {P : Program} {w : World} {r : Reach} {base : Nat} {t : TypeId} {v : Value} {n : Nat} {e : TypeId} (ht : P.underlying t = some (.array n e)) (h : Value.okWide P w r base t v) : ∃ c, v = .agg c := by
  simp only [Value.okWide, ht] at h
  obtain ⟨cs, h1, _⟩ := h
  exact ⟨cs, h1⟩
def intOf : Value → Int
  | .int _ i => i
  | _ => 0
theorem bytes_of {s : St} {cs : List Value} {n : Nat} (hl : cs.length = n) (h : ∀ i, i < n → Rd Try.prog s 5 ((cs.drop (i * 1)).take 1)) : ∃ l, cs = uc l ∧ Bytes l n := by
  have key : ∀ i, i < n → ∃ x, cs[i]? = some (.int .u8 x) ∧ 0 ≤ x ∧ x ≤ 255 := fun i hi => by
    obtain ⟨x, e, hx⟩ := rd_u8 (h i hi)
    rw [Nat.mul_one, List.drop_eq_getElem_cons (by omega)] at e
    simp only [List.take_succ_cons, List.take_zero, List.cons.injEq, and_true] at e
    exact ⟨x, by rw [List.getElem?_eq_getElem (by omega), e], hx⟩
  refine ⟨cs.map intOf, ?_, by simpa using hl, fun i hi => ?_⟩
  · apply List.ext_getElem?
    intro i
    by_cases hi : i < n
    · obtain ⟨x, e, _⟩ := key i hi
      simp [uc, e, intOf]
    · rw [List.getElem?_eq_none (by omega), List.getElem?_eq_none (by simp [uc]; omega)]
  · obtain ⟨x, e, hx⟩ := key i hi
    simp only [List.getD, List.getElem?_map, e, Option.map_some, intOf, Option.getD_some]
    exact hx
theorem rd_six {s : St} {cs : List Value} (h : Rd Try.prog s 25 cs) : ∃ l, cs = uc l ∧ Bytes l 6 := by
  cases h with
  | int hu _ => rw [Try.underlying25] at hu; cases hu
  | bool hu => rw [Try.underlying25] at hu; cases hu
  | nil hu => rw [Try.underlying25] at hu; cases hu
  | empty hu => rw [Try.underlying25] at hu; cases hu
  | slice hu => rw [Try.underlying25] at hu; cases hu
  | struct hu => rw [Try.underlying25] at hu; cases hu
  | array hu hl hf =>
    rw [Try.underlying25] at hu
    cases hu
    rw [cells25] at hl
    exact bytes_of hl fun i hi => by have := hf i hi; rwa [cells5] at this
theorem rd_eight {s : St} {cs : List Value} (h : Rd Try.prog s 26 cs) : ∃ l, cs = uc l ∧ Bytes l 8 := by
  cases h with
  | int hu _ => rw [Try.underlying26] at hu; cases hu
  | bool hu => rw [Try.underlying26] at hu; cases hu
  | nil hu => rw [Try.underlying26] at hu; cases hu
  | empty hu => rw [Try.underlying26] at hu; cases hu
  | slice hu => rw [Try.underlying26] at hu; cases hu
  | struct hu => rw [Try.underlying26] at hu; cases hu
  | array hu hl hf =>
    rw [Try.underlying26] at hu
    cases hu
    rw [cells26] at hl
    exact bytes_of hl fun i hi => by have := hf i hi; rwa [cells5] at this
theorem eight {l : List Int} (h : l.length = 8) : ∃ a b c d e f g i, l = [a, b, c, d, e, f, g, i] := by
  match l, h with
  | [a, b, c, d, e, f, g, i], _ => exact ⟨a, b, c, d, e, f, g, i, rfl⟩
theorem two {cs : List Value} (h : cs.length = 2) : ∃ p q, cs = [p, q] := by
  match cs, h with
  | [p, q], _ => exact ⟨p, q, rfl⟩

theorem rd_row {s : St} {cs : List Value} (h : Rd Try.prog s 29 cs) : ∃ v l, cs = [v] ∧ IRow s v l := by
  cases h with
  | int hu _ => rw [Try.underlying29] at hu; cases hu
  | bool hu => rw [Try.underlying29] at hu; cases hu
  | nil hu => exact ⟨_, [], rfl, none, 0, rfl, ⟨Nat.le_refl _, fun _ => rfl⟩, fun h => absurd h (Nat.lt_irrefl _)⟩
  | empty hu => exact ⟨_, [], rfl, _, 0, rfl, ⟨Nat.le_refl _, fun h => by cases h⟩, fun h => absurd h (Nat.lt_irrefl _)⟩
  | @slice _ e b off len cap k row hu h1 h2 h3 h4 h5 h6 h7 =>
    rw [Try.underlying29] at hu
    cases hu
    rw [cells3] at h6
    have hlen : ((List.range len).map fun i => intOf ((row i).headD undef)).length = len := by simp
    refine ⟨_, (List.range len).map fun i => intOf ((row i).headD undef), rfl, some ⟨b, off, none⟩, cap, by rw [hlen], ⟨by rw [hlen]; exact h2, fun h => by cases h⟩, fun _ => ⟨b, off, none, rfl, fun i hi => ?_⟩⟩
    rw [hlen] at hi
    rw [h6 i (by omega)]
    obtain ⟨x, hx⟩ := rd_int (h7 i (by omega))
    simp [hx, List.getD, hi, intOf]
  | struct hu => rw [Try.underlying29] at hu; cases hu
  | array hu => rw [Try.underlying29] at hu; cases hu

theorem rd_rows {s : St} {cs : List Value} (h : Rd Try.prog s 22 cs) : ∃ v M, cs = [v] ∧ MRow s v M := by
  cases h with
  | int hu _ => rw [Try.underlying22] at hu; cases hu
  | bool hu => rw [Try.underlying22] at hu; cases hu
  | nil hu => exact ⟨_, [], rfl, fun _ => undef, ⟨none, 0, rfl, ⟨Nat.le_refl _, fun _ => rfl⟩, fun h => absurd h (Nat.lt_irrefl _)⟩, fun i hi => absurd hi (Nat.not_lt_zero _)⟩
  | empty hu => exact ⟨_, [], rfl, fun _ => undef, ⟨_, 0, rfl, ⟨Nat.le_refl _, fun h => by cases h⟩, fun h => absurd h (Nat.lt_irrefl _)⟩, fun i hi => absurd hi (Nat.not_lt_zero _)⟩
  | @slice _ e b off len cap k row hu h1 h2 h3 h4 h5 h6 h7 =>
    rw [Try.underlying22] at hu
    cases hu
    rw [cells29] at h6
    have hrow : ∀ i, ∃ v l, i < len → row i = [v] ∧ IRow s v l := fun i => by
      by_cases hi : i < len
      · obtain ⟨v, l, e, hr⟩ := rd_row (h7 i (by omega))
        exact ⟨v, l, fun _ => ⟨e, hr⟩⟩
      · exact ⟨undef, [], fun h => absurd h hi⟩
    obtain ⟨rv, hrv⟩ := Classical.axiomOfChoice hrow
    obtain ⟨L, hL⟩ := Classical.axiomOfChoice hrv
    refine ⟨_, (List.range len).map L, rfl, rv, ⟨some ⟨b, off, none⟩, cap, by simp, ⟨by simpa using h2, fun h => by cases h⟩, fun _ => ⟨b, off, none, rfl, fun i hi => ?_⟩⟩, fun i hi => ?_⟩
    · have hi' : i < len := by simpa using hi
      rw [h6 i (by omega), (hL i hi').1]
    · have hi' : i < len := by simpa using hi
      have e : rowM ((List.range len).map L) i = L i := by simp [rowM, List.getD, hi']
      rw [e]
      exact (hL i hi').2
  | struct hu => rw [Try.underlying22] at hu; cases hu
  | array hu => rw [Try.underlying22] at hu; cases hu

theorem rd_flat {s : St} {cs : List Value} (h : Rd Try.prog s 24 cs) : ∃ v rent M, cs = [v, .int .i64 rent] ∧ MRow s v M := by
  cases h with
  | int hu _ => rw [Try.underlying24] at hu; cases hu
  | bool hu => rw [Try.underlying24] at hu; cases hu
  | nil hu => rw [Try.underlying24] at hu; cases hu
  | empty hu => rw [Try.underlying24] at hu; cases hu
  | slice hu => rw [Try.underlying24] at hu; cases hu
  | struct hu hl hf =>
    rw [Try.underlying24] at hu
    cases hu
    rw [cells24] at hl
    obtain ⟨v, M, hv, hr⟩ := rd_rows (cs := (cs.drop 0).take (Try.prog.cellsOf 22)) (hf 0 _ rfl)
    obtain ⟨x, hx⟩ := rd_int (cs := (cs.drop 1).take (Try.prog.cellsOf 3)) (hf 1 _ rfl)
    rw [cells3] at hx
    rw [cells22] at hv
    clear hf
    obtain ⟨p, q, rfl⟩ := two hl
    simp at hx hv
    subst hv
    exact ⟨p, x, M, by rw [hx], hr⟩
  | array hu => rw [Try.underlying24] at hu; cases hu

/-! ### The call -/

theorem top_agg {W : World} {c : Array Value} {l : List Value} (e : c.toList.map (mir W.heap.size) = l) : mirTop W.heap.size (.agg c) = .agg l.toArray := by
  show Value.agg (c.map (mir W.heap.size)) = _
  rw [← Array.toArray_toList (xs := c.map (mir W.heap.size)), Array.toList_map, e]

theorem walk (W : World) (c0 c1 c2 c3 c4 : Array Value) (h0 : Rd Try.prog (mirror W) 24 (c0.toList.map (mir W.heap.size))) (h1 : Rd Try.prog (mirror W) 25 (c1.toList.map (mir W.heap.size))) (h2 : Rd Try.prog (mirror W) 25 (c2.toList.map (mir W.heap.size))) (h3 : Rd Try.prog (mirror W) 26 (c3.toList.map (mir W.heap.size))) (h4 : Rd Try.prog (mirror W) 26 (c4.toList.map (mir W.heap.size))) :
    Calls Try.prog 3 #[.agg c0, .agg c1, .agg c2, .agg c3, .agg c4] W fun e w' => e = .returned (.bool true) ∧ Below W.heap.size W w' := by
  obtain ⟨v, rent, M, e0, hm⟩ := rd_flat h0
  obtain ⟨l1, e1, hb1⟩ := rd_six h1
  obtain ⟨l2, e2, hb2⟩ := rd_six h2
  obtain ⟨l3, e3, hb3⟩ := rd_eight h3
  obtain ⟨l4, e4, hb4⟩ := rd_eight h4
  obtain ⟨x0, x1, x2, x3, x4, x5, x6, x7, rfl⟩ := eight hb3.1
  obtain ⟨y0, y1, y2, y3, y4, y5, y6, y7, rfl⟩ := eight hb4.1
  obtain ⟨n, r, s', hi, rfl⟩ := Go.Proofs.Ytfgnjndicidpkaa.c3 (K := K1) (rent := rent) k1_late k1_three k1_four hm hb1 hb2 hb3 hb4
  have m0 := top_agg e0
  rw [show Value.agg #[v, .int .i64 rent] = .agg [v, .int .i64 rent].toArray from rfl, ← m0, ← top_agg e1, ← top_agg e2, ← top_agg e3, ← top_agg e4] at hi
  exact calls_of_inv (args' := [.agg c0, .agg c1, .agg c2, .agg c3, .agg c4]) Abs.fit k1_ok hi rfl ⟨_, Try.func3, rfl⟩ (.cons (mirTop_rel W _) (.cons (mirTop_rel W _) (.cons (mirTop_rel W _) (.cons (mirTop_rel W _) (.cons (mirTop_rel W _) .nil))))) (Inj.mirror W) (fun b p k _ h => mirror_ro h) (fun _ => rfl)

/-! ### The row's step -/

set_option maxRecDepth 100000 in
theorem lifted (os : Os) (started : os.Started) (H : Type) (enc : TypeId × Value → H) :
    ReturnsInHanded {} Try.checked os 3 .any (Rows.topShiftedSpec.pre6 enc Try.prog Try.f3 Rows.topShiftedRow.domain false) (Rows.topShiftedSpec.post enc Try.prog Try.f3 false true false false) := by
  refine returnsInHanded_of_change (C := Try.checked) own started (by kernel_rfl) Try.func3
    (ChangeSpec.witness6 (enc := enc) (C := Try.checked) false ⟨#[], #[.agg #[.slice none 0 0, .int .i64 0], .agg #[.int .u8 0, .int .u8 0, .int .u8 0, .int .u8 0, .int .u8 0, .int .u8 0], .agg #[.int .u8 0, .int .u8 0, .int .u8 0, .int .u8 0, .int .u8 0, .int .u8 0], .agg #[.int .u8 0, .int .u8 0, .int .u8 0, .int .u8 0, .int .u8 0, .int .u8 0, .int .u8 0, .int .u8 0], .agg #[.int .u8 0, .int .u8 0, .int .u8 0, .int .u8 0, .int .u8 0, .int .u8 0, .int .u8 0, .int .u8 0]], []⟩ 8 (by kernel_rfl) (by kernel_rfl) (by kernel_rfl) (by kernel_rfl)) ?_
  intro W base args ds gs before hval0 hW hcnd _
  have hval : ∀ (j : Nat) t v, Try.f3.params[j]? = some t → args[j]? = some v → Value.okWide Try.prog W .any base t v := hval0
  have hW' := hW
  obtain ⟨p, q, hA0, hV, rfl, hfz, hnd⟩ := hW
  have hA : DataW.TrodAll enc Try.prog W 0 (fun _ => true) true Try.f3.params.toList args.toList ds p := hA0
  rw [Try.params3] at hA hval
  obtain ⟨v0, vs0, d0, ds0, p0, q0, hargs, rfl, rfl, h0, r0⟩ := trodAll_cons hA
  obtain ⟨v1, vs1, d1, ds1, p1, q1, rfl, rfl, rfl, h1, r1⟩ := trodAll_cons r0
  obtain ⟨v2, vs2, d2, ds2, p2, q2, rfl, rfl, rfl, h2, r2⟩ := trodAll_cons r1
  obtain ⟨v3, vs3, d3, ds3, p3, q3, rfl, rfl, rfl, h3, r3⟩ := trodAll_cons r2
  obtain ⟨v4, vs4, d4, ds4, p4, q4, rfl, rfl, rfl, h4, r4⟩ := trodAll_cons r3
  obtain ⟨rfl, rfl, rfl⟩ := trodAll_nil r4
  obtain rfl : args = #[v0, v1, v2, v3, v4] := by cases args; simp_all
  obtain ⟨rfl, rfl⟩ := trodVars_none hV
  obtain ⟨c0, rfl, _⟩ := okWide_struct Try.underlying24 (hval 0 24 v0 rfl rfl)
  obtain ⟨c1, rfl⟩ : ∃ c, v1 = .agg c := okWide_array Try.underlying25 (hval 1 25 v1 rfl rfl)
  obtain ⟨c2, rfl⟩ : ∃ c, v2 = .agg c := okWide_array Try.underlying25 (hval 2 25 v2 rfl rfl)
  obtain ⟨c3, rfl⟩ : ∃ c, v3 = .agg c := okWide_array Try.underlying26 (hval 3 26 v3 rfl rfl)
  obtain ⟨c4, rfl⟩ : ∃ c, v4 = .agg c := okWide_array Try.underlying26 (hval 4 26 v4 rfl rfl)
  have k0 := h0
  have k1 := h1
  have k2 := h2
  have k3 := h3
  have k4 := h4
  have lt0 : ∀ x ∈ p0, x.block < W.heap.size := by obtain ⟨m, hm⟩ := k0; exact DataW.trod_lt m _ _ _ hm
  have lt1 : ∀ x ∈ p1, x.block < W.heap.size := by obtain ⟨m, hm⟩ := k1; exact DataW.trod_lt m _ _ _ hm
  have lt2 : ∀ x ∈ p2, x.block < W.heap.size := by obtain ⟨m, hm⟩ := k2; exact DataW.trod_lt m _ _ _ hm
  have lt3 : ∀ x ∈ p3, x.block < W.heap.size := by obtain ⟨m, hm⟩ := k3; exact DataW.trod_lt m _ _ _ hm
  have lt4 : ∀ x ∈ p4, x.block < W.heap.size := by obtain ⟨m, hm⟩ := k4; exact DataW.trod_lt m _ _ _ hm
  have w0 : Rd Try.prog (mirror W) 24 (c0.toList.map (mir W.heap.size)) := by
    obtain ⟨m, hm⟩ := h0
    exact trod_rd 5 m 24 _ _ plain24 hm
  have w1 : Rd Try.prog (mirror W) 25 (c1.toList.map (mir W.heap.size)) := by
    obtain ⟨m, hm⟩ := h1
    exact trod_rd 5 m 25 _ _ plain25 hm
  have w2 : Rd Try.prog (mirror W) 25 (c2.toList.map (mir W.heap.size)) := by
    obtain ⟨m, hm⟩ := h2
    exact trod_rd 5 m 25 _ _ plain25 hm
  have w3 : Rd Try.prog (mirror W) 26 (c3.toList.map (mir W.heap.size)) := by
    obtain ⟨m, hm⟩ := h3
    exact trod_rd 5 m 26 _ _ plain26 hm
  have w4 : Rd Try.prog (mirror W) 26 (c4.toList.map (mir W.heap.size)) := by
    obtain ⟨m, hm⟩ := h4
    exact trod_rd 5 m 26 _ _ plain26 hm
  clear hA0 hval0
  refine (walk W c0 c1 c2 c3 c4 w0 w1 w2 w3 w4).mono fun e W' ⟨he, bel⟩ => ?_
  subst he
  exact ⟨_, rfl, _, _, _, [], _, [], hW', trodAll_mk1 (shut_bool Try.underlying4 _), (trodAll_cons_mk (Below.trod laidOut (by kernel_rfl) (of_decide_eq_true (by kernel_rfl)) k0 bel lt0) (trodAll_cons_mk (Below.trod laidOut (by kernel_rfl) (of_decide_eq_true (by kernel_rfl)) k1 bel lt1) (trodAll_cons_mk (Below.trod laidOut (by kernel_rfl) (of_decide_eq_true (by kernel_rfl)) k2 bel lt2) (trodAll_cons_mk (Below.trod laidOut (by kernel_rfl) (of_decide_eq_true (by kernel_rfl)) k3 bel lt3) (trodAll_cons_mk (Below.trod laidOut (by kernel_rfl) (of_decide_eq_true (by kernel_rfl)) k4 bel lt4) trodAll_mk0))))), rfl, bel.frame _, fun h => by cases h⟩

theorem over : Rows.topShiftedRow.holds Try.pinned (OpenSpec.ofChange Rows.topShiftedSpec) :=
  OpenClaim.holds_of_wide 3 Try.f3 rfl rfl rfl rfl rfl rfl rfl ⟨rfl, rfl, rfl, rfl, rfl⟩ rfl rfl rfl rfl rfl (by kernel_rfl) Try.func3 (by kernel_rfl)
    (of_decide_eq_true (by kernel_rfl)) (by unfold Func.isWrapper; first | (rw [if_pos (by decide +kernel)]; kernel_rfl) | (rw [if_neg (by decide +kernel)]; exact ⟨rfl, rfl⟩))
    (fun os started H enc _ => lifted os started H enc)

/-- The statement. -/
theorem topShifted_holds : Rows.TopShiftedSaid := over
#print axioms topShifted_holds
end Go.Proofs.Ytfgnjndicidpkaa
