/- Proved: TopJoined returns true whatever two networks it is handed, and both read behind the call as they read before.
   Conditions: none; the statement is the given one, for every input. -/
import Derived.Test.YtgkmpidihgbkdaaRows
import Derived.Test.YtgkmpidihgbkdaaJZ
import Derived.Test.YtgkmpidihgbkdaaJAC
import Derived.Test.YtgkmpidihgbkdaaAbsTop
import Derived.WalkKit
import Derived.ProofKit
import Derived.OpenShut
import Derived.ShutString
import Derived.ChangeOld
import Derived.Below
namespace Go.Proofs.Ytgkmpidihgbkdaa
open Go.ChangeShapes Go.WideShapes Go.ChangeAt Go.RowKit
open Go.Abs

theorem own : ownKnob Try.prog.godebug = none := by kernel_rfl
theorem laidOut : laidOutB Try.prog = true := by kernel_rfl

/-! ### What is known ahead -/

abbrev K1 : Known := Abs.knows 4 (.bool true) none0
theorem k1_late : Late K1 := fun k args hk => by
  show (if k = 4 ∧ args = [] then some (Value.bool true) else none0 k args) = none
  rw [if_neg (fun h => absurd hk (by rw [h.1]; decide))]; rfl
theorem k1_four : K1 4 [] = some (.bool true) := rfl
theorem k1_three (args : List Value) : K1 3 args = none := by
  show (if 3 = 4 ∧ args = [] then some (Value.bool true) else none0 3 args) = none
  rw [if_neg (fun h => absurd h.1 (by decide))]; rfl
theorem k1_ok : KnownOk Try.prog K1 := by
  obtain ⟨n, v, s', h, rfl⟩ := c4
  exact KnownOk.knows Abs.fit knownOk_none h rfl

/-! ### What comes in -/

theorem cells3 : Try.prog.cellsOf 3 = 1 := by kernel_rfl
theorem cells22 : Try.prog.cellsOf 22 = 1 := by kernel_rfl
theorem cells24 : Try.prog.cellsOf 24 = 2 := by kernel_rfl
theorem cells47 : Try.prog.cellsOf 47 = 3 := by kernel_rfl
theorem plain24 : plainTy Try.prog 5 24 = true := by kernel_rfl

theorem rd_int {s : St} {cs : List Value} (h : Rd Try.prog s 3 cs) : ∃ i, cs = [.int .i64 i] := by
  cases h with
  | int hu _ => rw [Try.underlying3] at hu; cases hu; exact ⟨_, rfl⟩
  | bool hu => rw [Try.underlying3] at hu; cases hu
  | nil hu => rw [Try.underlying3] at hu; cases hu
  | empty hu => rw [Try.underlying3] at hu; cases hu
  | slice hu => rw [Try.underlying3] at hu; cases hu
  | struct hu => rw [Try.underlying3] at hu; cases hu
  | array hu => rw [Try.underlying3] at hu; cases hu

theorem three {cs : List Value} (h : cs.length = 3) : ∃ p q r, cs = [p, q, r] := by
  match cs, h with
  | [p, q, r], _ => exact ⟨p, q, r, rfl⟩
theorem two {cs : List Value} (h : cs.length = 2) : ∃ p q, cs = [p, q] := by
  match cs, h with
  | [p, q], _ => exact ⟨p, q, rfl⟩
theorem rd_arc {s : St} {cs : List Value} (h : Rd Try.prog s 47 cs) : ∃ a : Arc, cs = acells a := by
  cases h with
  | int hu _ => rw [Try.underlying47] at hu; cases hu
  | bool hu => rw [Try.underlying47] at hu; cases hu
  | nil hu => rw [Try.underlying47] at hu; cases hu
  | empty hu => rw [Try.underlying47] at hu; cases hu
  | slice hu => rw [Try.underlying47] at hu; cases hu
  | struct hu hl hf =>
    rw [Try.underlying47] at hu
    cases hu
    rw [cells47] at hl
    obtain ⟨x, hx⟩ := rd_int (cs := (cs.drop 0).take (Try.prog.cellsOf 3)) (hf 0 _ rfl)
    obtain ⟨y, hy⟩ := rd_int (cs := (cs.drop 1).take (Try.prog.cellsOf 3)) (hf 1 _ rfl)
    obtain ⟨z, hz⟩ := rd_int (cs := (cs.drop 2).take (Try.prog.cellsOf 3)) (hf 2 _ rfl)
    rw [cells3] at hx hy hz
    clear hf
    obtain ⟨p, q, r, rfl⟩ := three hl
    simp at hx hy hz
    exact ⟨⟨x, y, z⟩, by rw [hx, hy, hz]; rfl⟩
  | array hu => rw [Try.underlying47] at hu; cases hu

def arcOfCells : List Value → Arc
  | [.int _ a, .int _ b, .int _ c] => ⟨a, b, c⟩
  | _ => default

theorem rd_arcs {s : St} {cs : List Value} (h : Rd Try.prog s 22 cs) : ∃ v l, cs = [v] ∧ ARow s v l := by
  cases h with
  | int hu _ => rw [Try.underlying22] at hu; cases hu
  | bool hu => rw [Try.underlying22] at hu; cases hu
  | nil hu => exact ⟨_, [], rfl, none, 0, rfl, ⟨Nat.le_refl _, fun _ => rfl⟩, fun h => absurd h (Nat.lt_irrefl _)⟩
  | empty hu => exact ⟨_, [], rfl, _, 0, rfl, ⟨Nat.le_refl _, fun h => by cases h⟩, fun h => absurd h (Nat.lt_irrefl _)⟩
  | @slice _ e b off len cap k row hu h1 h2 h3 h4 h5 h6 h7 =>
    rw [Try.underlying22] at hu
    cases hu
    rw [cells47] at h6
    have hrow : ∀ i, i < len → acells (arcAt ((List.range len).map fun i => arcOfCells (row i)) i) = row i := fun i hi => by
      obtain ⟨a, ha⟩ := rd_arc (h7 i (by omega))
      have e1 : arcAt ((List.range len).map fun i => arcOfCells (row i)) i = arcOfCells (row i) := by simp [arcAt, List.getD, hi]
      rw [e1, ha]; rfl
    have hlen : ((List.range len).map fun i => arcOfCells (row i)).length = len := by simp
    refine ⟨_, (List.range len).map fun i => arcOfCells (row i), rfl, some ⟨b, off, none⟩, cap, by rw [hlen], ⟨by rw [hlen]; exact h2, fun h => by cases h⟩, fun _ => ⟨b, off, none, rfl, fun i hi => ?_⟩⟩
    rw [hlen] at hi
    rw [h6 i (by omega)]
    exact congrArg some (hrow i hi).symm
  | struct hu => rw [Try.underlying22] at hu; cases hu
  | array hu => rw [Try.underlying22] at hu; cases hu

theorem rd_net {s : St} {cs : List Value} (h : Rd Try.prog s 24 cs) : ∃ N v l, cs = [.int .i64 N, v] ∧ ARow s v l := by
  cases h with
  | int hu _ => rw [Try.underlying24] at hu; cases hu
  | bool hu => rw [Try.underlying24] at hu; cases hu
  | nil hu => rw [Try.underlying24] at hu; cases hu
  | empty hu => rw [Try.underlying24] at hu; cases hu
  | slice hu => rw [Try.underlying24] at hu; cases hu
  | struct hu hl hf =>
    rw [Try.underlying24] at hu
    cases hu
    rw [cells24] at hl
    obtain ⟨x, hx⟩ := rd_int (cs := (cs.drop 0).take (Try.prog.cellsOf 3)) (hf 0 _ rfl)
    obtain ⟨v, l, hv, hr⟩ := rd_arcs (cs := (cs.drop 1).take (Try.prog.cellsOf 22)) (hf 1 _ rfl)
    rw [cells3] at hx
    rw [cells22] at hv
    clear hf
    obtain ⟨p, q, rfl⟩ := two hl
    simp at hx hv
    subst hv
    exact ⟨x, q, l, by rw [hx], hr⟩
  | array hu => rw [Try.underlying24] at hu; cases hu

/-! ### The call -/

theorem walk (W : World) (c0 c1 : Array Value) (h0 : Rd Try.prog (mirror W) 24 (c0.toList.map (mir W.heap.size))) (h1 : Rd Try.prog (mirror W) 24 (c1.toList.map (mir W.heap.size))) :
    Calls Try.prog 3 #[.agg c0, .agg c1] W fun e w' => e = .returned (.bool true) ∧ Below W.heap.size W w' := by
  obtain ⟨nN, nv, nl, e0, hn⟩ := rd_net h0
  obtain ⟨mN, mv, ml, e1, hm⟩ := rd_net h1
  have m0 : mirTop W.heap.size (.agg c0) = .agg #[.int .i64 nN, nv] := by
    show Value.agg (c0.map (mir W.heap.size)) = _
    rw [← Array.toArray_toList (xs := c0.map (mir W.heap.size)), Array.toList_map, e0]
  have m1 : mirTop W.heap.size (.agg c1) = .agg #[.int .i64 mN, mv] := by
    show Value.agg (c1.map (mir W.heap.size)) = _
    rw [← Array.toArray_toList (xs := c1.map (mir W.heap.size)), Array.toList_map, e1]
  obtain ⟨n, v, s', hi, rfl⟩ := c3 (K := K1) k1_late k1_four k1_three (nN := nN) (mN := mN) hn hm
  rw [← m0, ← m1] at hi
  exact calls_of_inv (args' := [.agg c0, .agg c1]) Abs.fit k1_ok hi rfl (.cons (mirTop_rel W _) (.cons (mirTop_rel W _) .nil)) (Inj.mirror W) (fun b p k _ h => mirror_ro h) (fun _ => rfl)

/-! ### The row's step -/

set_option maxRecDepth 100000 in
theorem lifted (os : Os) (started : os.Started) (H : Type) (enc : TypeId × Value → H) :
    ReturnsInHanded {} Try.checked os 3 .any (Rows.topJoinedSpec.pre6 enc Try.prog Try.f3 Rows.topJoinedRow.domain false) (Rows.topJoinedSpec.post enc Try.prog Try.f3 false true false false) := by
  refine returnsInHanded_of_change (C := Try.checked) own started (by kernel_rfl) Try.func3
    (ChangeSpec.witness6 (enc := enc) (C := Try.checked) false ⟨#[], #[.agg #[.int .i64 0, .slice none 0 0], .agg #[.int .i64 0, .slice none 0 0]], []⟩ 8 (by kernel_rfl) (by kernel_rfl) (by kernel_rfl) (by kernel_rfl)) ?_
  intro W base args ds gs before hval0 hW hcnd _
  have hval : ∀ (j : Nat) t v, Try.f3.params[j]? = some t → args[j]? = some v → Value.okWide Try.prog W .any base t v := hval0
  have hW' := hW
  obtain ⟨p, q, hA0, hV, rfl, hfz, hnd⟩ := hW
  have hA : DataW.TrodAll enc Try.prog W 0 (fun _ => true) true Try.f3.params.toList args.toList ds p := hA0
  rw [Try.params3] at hA hval
  obtain ⟨v0, vs0, d0, ds0, p0, q0, hargs, rfl, rfl, h0, r0⟩ := trodAll_cons hA
  obtain ⟨v1, vs1, d1, ds1, p1, q1, rfl, rfl, rfl, h1, r1⟩ := trodAll_cons r0
  obtain ⟨rfl, rfl, rfl⟩ := trodAll_nil r1
  obtain rfl : args = #[v0, v1] := by cases args; simp_all
  obtain ⟨rfl, rfl⟩ := trodVars_none hV
  obtain ⟨c0, rfl, _⟩ := okWide_struct Try.underlying24 (hval 0 24 v0 rfl rfl)
  obtain ⟨c1, rfl, _⟩ := okWide_struct Try.underlying24 (hval 1 24 v1 rfl rfl)
  have k0 := h0
  have k1 := h1
  have lt0 : ∀ x ∈ p0, x.block < W.heap.size := by obtain ⟨m, hm⟩ := k0; exact DataW.trod_lt m _ _ _ hm
  have lt1 : ∀ x ∈ p1, x.block < W.heap.size := by obtain ⟨m, hm⟩ := k1; exact DataW.trod_lt m _ _ _ hm
  have w0 : Rd Try.prog (mirror W) 24 (c0.toList.map (mir W.heap.size)) := by
    obtain ⟨m, hm⟩ := h0
    exact trod_rd 5 m 24 _ _ plain24 hm
  have w1 : Rd Try.prog (mirror W) 24 (c1.toList.map (mir W.heap.size)) := by
    obtain ⟨m, hm⟩ := h1
    exact trod_rd 5 m 24 _ _ plain24 hm
  clear hA0 hval0
  refine (walk W c0 c1 w0 w1).mono fun e W' ⟨he, bel⟩ => ?_
  subst he
  exact ⟨_, rfl, _, _, _, [], _, [], hW', trodAll_mk1 (shut_bool Try.underlying4 _), (trodAll_cons_mk (Below.trod laidOut (by kernel_rfl) (of_decide_eq_true (by kernel_rfl)) k0 bel lt0) (trodAll_cons_mk (Below.trod laidOut (by kernel_rfl) (of_decide_eq_true (by kernel_rfl)) k1 bel lt1) trodAll_mk0)), rfl, bel.frame _, fun h => by cases h⟩

theorem over : Rows.topJoinedRow.holds Try.pinned (OpenSpec.ofChange Rows.topJoinedSpec) :=
  OpenClaim.holds_of_wide 3 Try.f3 rfl rfl rfl rfl rfl rfl rfl ⟨rfl, rfl, rfl, rfl, rfl⟩ rfl rfl rfl rfl rfl (by kernel_rfl) Try.func3 (by kernel_rfl)
    (of_decide_eq_true (by kernel_rfl)) (by unfold Func.isWrapper; first | (rw [if_pos (by decide +kernel)]; kernel_rfl) | (rw [if_neg (by decide +kernel)]; exact ⟨rfl, rfl⟩))
    (fun os started H enc _ => lifted os started H enc)

/-- The statement. -/
theorem topJoined_holds : Rows.TopJoinedSaid := over
#print axioms topJoined_holds
end Go.Proofs.Ytgkmpidihgbkdaa
