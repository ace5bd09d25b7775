/- Rows of cells in the store: how they are read; blocks of integers and of booleans: how they are read and written. Of no one program. -/
import Derived.Test.YtfgnjndicidpkaaAbsDr
import Derived.Test.YtfgnjndicidpkaaAbsDrawn
import Derived.IntWalk
namespace Go.Proofs.Ytfgnjndicidpkaa
open Go.Abs

/-- Older loops over functions stay as they were. -/
def Lold (s s' : St) : Prop := s.nloops ≤ s'.nloops ∧ ∀ l, l < s.nloops → s'.loop l = s.loop l
theorem Lold.eq {s s' : St} (h : s'.loops = s.loops) : Lold s s' := by
  refine ⟨?_, fun l _ => ?_⟩
  · unfold St.nloops; rw [h]; exact Nat.le_refl _
  · unfold St.loop St.nloops; rw [h]
theorem Lold.trans {a b c : St} (h : Lold a b) (k : Lold b c) : Lold a c := ⟨Nat.le_trans h.1 k.1, fun x hx => (k.2 x (Nat.lt_of_lt_of_le hx h.1)).trans (h.2 x hx)⟩
/-- Older blocks stay as they were. -/
def Old (s s' : St) : Prop := s.size ≤ s'.size ∧ (∀ b, b < s.size → s'.get b = s.get b) ∧ Lold s s'
theorem Old.refl (s : St) : Old s s := ⟨Nat.le_refl _, fun _ _ => rfl, .eq rfl⟩
theorem Old.trans {a b c : St} (h : Old a b) (k : Old b c) : Old a c := ⟨Nat.le_trans h.1 k.1, fun x hx => (k.2.1 x (Nat.lt_of_lt_of_le hx h.1)).trans (h.2.1 x hx), h.2.2.trans k.2.2⟩
theorem Old.push (s : St) (k : Blk) : Old s (s.push k) := ⟨by simp, fun b hb => St.get_push_lt _ _ _ hb, .eq rfl⟩
theorem Old.cells {s s' : St} (h : Old s s') {b i n : Nat} {l : List Value} (hl : s.cells b i n = some l) : s'.cells b i n = some l := by
  have hb : b < s.size := by
    unfold St.cells at hl
    split at hl
    · rename_i hg; exact St.get_lt hg
    · cases hl
  unfold St.cells at hl ⊢
  rw [h.2.1 b hb]
  exact hl

/-! ### What a store says after it grew or was changed -/

theorem gpush {s : St} {k x : Blk} {b : Nat} (h : s.get b = some x) : (s.push k).get b = some x := by rw [St.get_push_lt _ _ _ (St.get_lt h)]; exact h
theorem gset {s : St} {k x : Blk} {b c : Nat} (h : s.get b = some x) (hne : c ≠ b) : (s.set c k).get b = some x := by rw [St.get_set_other _ _ _ _ hne]; exact h
theorem gnew {s : St} {k : Blk} : (s.push k).get s.size = some k := St.get_push_new _ _
theorem gsetn {s : St} {k x : Blk} {b : Nat} (h : s.get b = some x) : (s.set b k).get b = some k := St.get_set_same _ _ _ (St.get_lt h)

/-- All blocks but these are as they were. -/
def Same (M : List Nat) (s s' : St) : Prop := s.size ≤ s'.size ∧ (∀ b, b < s.size → b ∉ M → s'.get b = s.get b) ∧ Lold s s'
theorem Same.refl (M : List Nat) (s : St) : Same M s s := ⟨Nat.le_refl _, fun _ _ _ => rfl, .eq rfl⟩
theorem Same.trans {M : List Nat} {a b c : St} (h : Same M a b) (k : Same M b c) : Same M a c := ⟨Nat.le_trans h.1 k.1, fun x hx hm => (k.2.1 x (Nat.lt_of_lt_of_le hx h.1) hm).trans (h.2.1 x hx hm), h.2.2.trans k.2.2⟩
theorem Same.mono {M M' : List Nat} {a b : St} (h : Same M a b) (hm : ∀ x ∈ M, x ∈ M') : Same M' a b := ⟨h.1, fun x hx hn => h.2.1 x hx (fun h' => hn (hm x h')), h.2.2⟩
theorem Same.push {M : List Nat} {a s : St} (h : Same M a s) (k : Blk) : Same M a (s.push k) := ⟨by have := h.1; simp; omega, fun b hb hm => by rw [St.get_push_lt _ _ _ (Nat.lt_of_lt_of_le hb h.1)]; exact h.2.1 b hb hm, h.2.2.trans (.eq rfl)⟩
theorem Same.set {M : List Nat} {a s : St} (h : Same M a s) {b : Nat} {k : Blk} (hb : a.size ≤ b ∨ b ∈ M) : Same M a (s.set b k) := by
  refine ⟨by simpa using h.1, fun c hc hm => ?_, ?_⟩
  · have hne : b ≠ c := by
      rintro rfl
      rcases hb with hb | hb
      · omega
      · exact hm hb
    rw [St.get_set_other _ _ _ _ hne]
    exact h.2.1 c hc hm
  · exact h.2.2.trans (.eq (by unfold St.set; split <;> rfl))
theorem Same.get {M : List Nat} {a s : St} (h : Same M a s) {b : Nat} {x : Blk} (hg : a.get b = some x) (hm : b ∉ M) : s.get b = some x := by rw [h.2.1 b (St.get_lt hg) hm]; exact hg
theorem Same.old {a s : St} (h : Same [] a s) : Old a s := ⟨h.1, fun b hb => h.2.1 b hb (by simp), h.2.2⟩
theorem Old.same {a s : St} (h : Old a s) (M : List Nat) : Same M a s := ⟨h.1, fun b hb _ => h.2.1 b hb, h.2.2⟩
/-- Changes that the older store does not see. -/
theorem Same.older {M : List Nat} {a b c : St} (h : Old a b) (k : Same M b c) (hm : ∀ x ∈ M, a.size ≤ x) : Old a c := ⟨Nat.le_trans h.1 k.1, fun x hx => (k.2.1 x (Nat.lt_of_lt_of_le hx h.1) (fun hx' => by have := hm x hx'; omega)).trans (h.2.1 x hx), h.2.2.trans k.2.2⟩
theorem Old.gpush {a s : St} (h : Old a s) (k : Blk) : Old a (s.push k) := h.trans (Old.push s k)
theorem Old.gset {a s : St} (h : Old a s) {b : Nat} {k : Blk} (hb : a.size ≤ b) : Old a (s.set b k) := ((h.same []).set (.inl hb)).old
theorem Old.get {a s : St} (h : Old a s) {b : Nat} {x : Blk} (hg : a.get b = some x) : s.get b = some x := by rw [h.2.1 b (St.get_lt hg)]; exact hg

/-! ### Rows -/

def ptr : Value → Nat → Value
  | .slice (some ⟨b, off, _⟩) _ _, o => .pointer (some ⟨b, off + o, none⟩)
  | _, _ => undef

/-- A slice of so many elements, each of so many cells. -/
def Row (s : St) (v : Value) (n sz : Nat) (g : Nat → List Value) : Prop :=
  ∃ a cap, v = .slice a n cap ∧ (n ≤ cap ∧ (a = none → cap = 0)) ∧ (0 < n → ∃ b off sp, a = some ⟨b, off, sp⟩ ∧ ∀ i, i < n → s.cells b (off + i * sz) sz = some (g i))

theorem Row.old {s s' : St} (h : Old s s') {v : Value} {n sz : Nat} {g : Nat → List Value} (hr : Row s v n sz g) : Row s' v n sz g := by
  obtain ⟨a, cap, h1, h2, h3⟩ := hr
  refine ⟨a, cap, h1, h2, fun hn => ?_⟩
  obtain ⟨b, off, sp, h4, h5⟩ := h3 hn
  exact ⟨b, off, sp, h4, fun i hi => h.cells (h5 i hi)⟩

theorem Row.of_get {s : St} {b n sz cap : Nat} {cs : List Value} {md : Abs.Mode} {g : Nat → List Value} (hg : s.get b = some ⟨cs, md⟩) (hm : md ≠ .dead) (hc : n ≤ cap) (h : ∀ i, i < n → i * sz + sz ≤ cs.length ∧ (cs.drop (i * sz)).take sz = g i) : Row s (.slice (some ⟨b, 0, none⟩) n cap) n sz g :=
  ⟨_, cap, rfl, ⟨hc, fun e => by cases e⟩, fun _ => ⟨b, 0, none, rfl, fun i hi => by simp [St.cells, hg, hm, (h i hi).1, (h i hi).2]⟩⟩

def IRow (s : St) (v : Value) (l : List Int) : Prop := Row s v l.length 1 (fun i => [.int .i64 (l.getD i 0)])
def BRow (s : St) (v : Value) (l : List Bool) : Prop := Row s v l.length 1 (fun i => [.bool (l.getD i false)])
theorem IRow.old {s s' : St} {v : Value} {l : List Int} (hr : IRow s v l) (h : Old s s') : IRow s' v l := Row.old h hr
theorem BRow.old {s s' : St} {v : Value} {l : List Bool} (hr : BRow s v l) (h : Old s s') : BRow s' v l := Row.old h hr

/-- Blocks of integers, of booleans. -/
def ic (l : List Int) : List Value := l.map (.int .i64)
def bc (l : List Bool) : List Value := l.map .bool
theorem ic_len (l : List Int) : (ic l).length = l.length := by simp [ic]
theorem bc_len (l : List Bool) : (bc l).length = l.length := by simp [bc]
theorem ic_get {l : List Int} {i : Nat} (h : i < l.length) : (ic l)[i]? = some (.int .i64 (l.getD i 0)) := by simp [ic, h, List.getD]
theorem bc_get {l : List Bool} {i : Nat} (h : i < l.length) : (bc l)[i]? = some (.bool (l.getD i false)) := by simp [bc, h, List.getD]
theorem ic_set {l : List Int} {i : Nat} {x : Int} : (ic l).set i (.int .i64 x) = ic (l.set i x) := by simp [ic, List.map_set]
theorem bc_set {l : List Bool} {i : Nat} {x : Bool} : (bc l).set i (.bool x) = bc (l.set i x) := by simp [bc, List.map_set]

theorem take_drop_one {α : Type} {l : List α} {i : Nat} {x : α} (h : l[i]? = some x) : (l.drop i).take 1 = [x] := by
  obtain ⟨hi, rfl⟩ := List.getElem?_eq_some_iff.1 h
  rw [List.drop_eq_getElem_cons hi]
  rfl

theorem IRow.of_get {s : St} {b cap : Nat} {l : List Int} {md : Abs.Mode} (hg : s.get b = some ⟨ic l, md⟩) (hm : md ≠ .dead) (hc : l.length ≤ cap) : IRow s (.slice (some ⟨b, 0, none⟩) l.length cap) l :=
  Row.of_get hg hm hc (fun i hi => by rw [Nat.mul_one, ic_len]; exact ⟨hi, take_drop_one (ic_get hi)⟩)
theorem BRow.of_get {s : St} {b cap : Nat} {l : List Bool} {md : Abs.Mode} (hg : s.get b = some ⟨bc l, md⟩) (hm : md ≠ .dead) (hc : l.length ≤ cap) : BRow s (.slice (some ⟨b, 0, none⟩) l.length cap) l :=
  Row.of_get hg hm hc (fun i hi => by rw [Nat.mul_one, bc_len]; exact ⟨hi, take_drop_one (bc_get hi)⟩)

theorem cells_cell {s : St} {b i : Nat} {x : Value} (h : s.cells b i 1 = some [x]) : s.cell b i = some x := by
  unfold St.cells at h
  unfold St.cell
  split at h
  · rename_i cs m hg
    split at h
    · cases h
    · rename_i hm
      split at h
      · rename_i hl
        simp only [Option.some.injEq] at h
        simp only [if_neg hm]
        rw [List.drop_eq_getElem_cons (by omega)] at h
        simp only [List.take_succ_cons, List.take_zero, List.cons.injEq, and_true] at h
        rw [List.getElem?_eq_getElem (by omega), h]
      · cases h
  · cases h

section
variable {P : Program} {n : Nat} {k : Kn} {s : St}

theorem Qk.lenR {x : Operand} {v : Value} {m sz : Nat} {g : Nat → List Value} {t : TypeId} {e : TypeId × Nat × Nat} {args : Array Operand} {tys : Array TypeId} (ha : args.toList = [x]) (ht : tys.toList = [t]) (hx : kev k x = some v) (hr : Row s v m sz g) (he : sliceElem P t = some e) :
    Qk P n k (.call { callee := .builtin .len, args := args, argTypes := tys }) (goInt m) := by
  obtain ⟨a, cap, rfl, _⟩ := hr
  exact Qk.len ha ht hx he

theorem Qk.at {t e : TypeId} {x y : Operand} {v : Value} {m sz bytes : Nat} {g : Nat → List Value} {kd : IntKind} {j : Int} (hx : kev k x = some v) (hy : kev k y = some (.int kd j)) (ha : arrElem P t = none) (hs : sliceElem P t = some (e, sz, bytes)) (hr : Row s v m sz g) (hj : 0 ≤ j ∧ j < m) :
    Qk P n k (.indexAddr t x y) (ptr v (j.toNat * sz)) := by
  obtain ⟨a, cap, rfl, _, h⟩ := hr
  obtain ⟨b, off, sp, rfl, _⟩ := h (by omega)
  exact Qk.ia hx hy ha hs hj

theorem Rk.atS {t : TypeId} {x : Operand} {v u : Value} {m i : Nat} {g : Nat → List Value} {q : Nat} (hx : kev k x = some (ptr v (i * 1))) (hsh : shapeOf P t = some (false, q)) (hr : Row s v m 1 g) (hi : i < m) (hg : g i = [u]) : Rk P n k s (.load t x) u := by
  obtain ⟨a, cap, rfl, _, h⟩ := hr
  obtain ⟨b, off, sp, rfl, h2⟩ := h (by omega)
  refine Rk.load hx ?_
  have := h2 i hi
  rw [hg] at this
  show aload P s t (.pointer (some ⟨b, off + i * 1, none⟩)) = _
  simp only [aload, hsh]
  exact cells_cell this

theorem Rk.atA {t : TypeId} {x : Operand} {v : Value} {m i sz : Nat} {g : Nat → List Value} (hx : kev k x = some (ptr v (i * sz))) (hsh : shapeOf P t = some (true, sz)) (hr : Row s v m sz g) (hi : i < m) : Rk P n k s (.load t x) (.agg (g i).toArray) := by
  obtain ⟨a, cap, rfl, _, h⟩ := hr
  obtain ⟨b, off, sp, rfl, h2⟩ := h (by omega)
  refine Rk.load hx ?_
  show aload P s t (.pointer (some ⟨b, off + i * sz, none⟩)) = _
  simp only [aload, hsh, h2 i hi, Option.map_some]

theorem Rk.intR {t : TypeId} {x : Operand} {v : Value} {i q : Nat} {l : List Int} (hx : kev k x = some (ptr v (i * 1))) (hsh : shapeOf P t = some (false, q)) (hr : IRow s v l) (hi : i < l.length) : Rk P n k s (.load t x) (.int .i64 (l.getD i 0)) := Rk.atS hx hsh hr hi rfl
theorem Rk.boolR {t : TypeId} {x : Operand} {v : Value} {i q : Nat} {l : List Bool} (hx : kev k x = some (ptr v (i * 1))) (hsh : shapeOf P t = some (false, q)) (hr : BRow s v l) (hi : i < l.length) : Rk P n k s (.load t x) (.bool (l.getD i false)) := Rk.atS hx hsh hr hi rfl

/-- An element of a block of its own. -/
theorem Qk.at1 {t e : TypeId} {x y : Operand} {b len cap bytes : Nat} {sp : Option Nat} {kd : IntKind} {j : Int} (hx : kev k x = some (.slice (some ⟨b, 0, sp⟩) len cap)) (hy : kev k y = some (.int kd j)) (ha : arrElem P t = none) (hs : sliceElem P t = some (e, 1, bytes)) (hj : 0 ≤ j ∧ j < len) :
    Qk P n k (.indexAddr t x y) (.pointer (some ⟨b, j.toNat, none⟩)) := by
  have := Qk.ia (n := n) hx hy ha hs hj
  rwa [Nat.zero_add, Nat.mul_one] at this
theorem Rk.int {t : TypeId} {x : Operand} {b i q : Nat} {l : List Int} {md : Abs.Mode} (hx : kev k x = some (.pointer (some ⟨b, i, none⟩))) (hsh : shapeOf P t = some (false, q)) (hg : s.get b = some ⟨ic l, md⟩) (hm : md ≠ .dead) (hi : i < l.length) : Rk P n k s (.load t x) (.int .i64 (l.getD i 0)) :=
  Rk.cell hx hsh hg hm (ic_get hi)
theorem Rk.bool {t : TypeId} {x : Operand} {b i q : Nat} {l : List Bool} {md : Abs.Mode} (hx : kev k x = some (.pointer (some ⟨b, i, none⟩))) (hsh : shapeOf P t = some (false, q)) (hg : s.get b = some ⟨bc l, md⟩) (hm : md ≠ .dead) (hi : i < l.length) : Rk P n k s (.load t x) (.bool (l.getD i false)) :=
  Rk.cell hx hsh hg hm (bc_get hi)

/-- A scalar is stored. -/
theorem Hk.cell {t : TypeId} {x y : Operand} {b i : Nat} {cs : List Value} {u : Value} (hx : kev k x = some (.pointer (some ⟨b, i, none⟩))) (hy : kev k y = some u) (hsh : shapeOf P t = some (false, 1)) (hg : s.get b = some ⟨cs, .rw⟩) (hi : i < cs.length) (hu : u.cells = #[u]) (hs : scalar u = true) :
    Hk P n k s (.store t x y) undef (s.set b ⟨cs.set i u, .rw⟩) := Hk.store hx hy (by
  simp only [astore, hsh, hu]
  simp only [List.size_toArray, List.length_cons, List.length_nil, Nat.zero_add, if_true, St.setCells, hg]
  rw [if_pos (by simp [Mode.writable, hs]; omega)]
  rfl)
theorem Hk.int {t : TypeId} {x y : Operand} {b i : Nat} {l : List Int} {u : Int} (hx : kev k x = some (.pointer (some ⟨b, i, none⟩))) (hy : kev k y = some (.int .i64 u)) (hsh : shapeOf P t = some (false, 1)) (hg : s.get b = some ⟨ic l, .rw⟩) (hi : i < l.length) :
    Hk P n k s (.store t x y) undef (s.set b ⟨ic (l.set i u), .rw⟩) := by rw [← ic_set]; exact Hk.cell hx hy hsh hg (by rwa [ic_len]) rfl rfl
theorem Hk.bool {t : TypeId} {x y : Operand} {b i : Nat} {l : List Bool} {u : Bool} (hx : kev k x = some (.pointer (some ⟨b, i, none⟩))) (hy : kev k y = some (.bool u)) (hsh : shapeOf P t = some (false, 1)) (hg : s.get b = some ⟨bc l, .rw⟩) (hi : i < l.length) :
    Hk P n k s (.store t x y) undef (s.set b ⟨bc (l.set i u), .rw⟩) := by rw [← bc_set]; exact Hk.cell hx hy hsh hg (by rwa [bc_len]) rfl rfl

theorem splice_all : ∀ {pre vs cs : List Value} {i : Nat}, pre.length = i → cs.length = vs.length → splice (pre ++ cs) i vs = pre ++ vs
  | pre, [], cs, i, _, h => by
    have : cs = [] := List.length_eq_zero_iff.1 h
    subst this; rfl
  | pre, v :: vs, [], i, _, h => by simp at h
  | pre, v :: vs, c :: cs, i, h1, h2 => by
    show splice ((pre ++ c :: cs).set i v) (i + 1) vs = _
    rw [List.set_append_right _ _ (by omega)]
    rw [show i - pre.length = 0 by omega, List.set_cons_zero]
    have := splice_all (pre := pre ++ [v]) (vs := vs) (cs := cs) (i := i + 1) (by simp [h1]) (by simpa using h2)
    simpa using this

/-- A whole block is overwritten. -/
theorem Hk.whole {t : TypeId} {x y : Operand} {b m : Nat} {cs l : List Value} {sh : Bool} (hx : kev k x = some (.pointer (some ⟨b, 0, none⟩))) (hy : kev k y = some (.agg l.toArray)) (hsh : shapeOf P t = some (sh, m)) (hg : s.get b = some ⟨cs, .rw⟩) (hi : l.length = m) (hc : cs.length = m) (hs : l.all scalar = true) :
    Hk P n k s (.store t x y) undef (s.set b ⟨l, .rw⟩) := Hk.store hx hy (by
  have e : (Value.agg l.toArray).cells = l.toArray := rfl
  simp only [astore, hsh]
  rw [e, if_pos (by simpa using hi)]
  simp only [St.setCells, hg]
  rw [if_pos (by rw [Bool.and_eq_true, Bool.and_eq_true]; exact ⟨⟨rfl, by simp; omega⟩, hs⟩)]
  have e2 : splice cs 0 l = l := splice_all (pre := []) (vs := l) (cs := cs) (i := 0) rfl (by omega)
  rw [e2])

/-! ### New blocks -/

theorem copies_int : ∀ (m : Nat) (z : Value), copies m [z] = List.replicate m z
  | 0, _ => rfl
  | m + 1, z => by rw [List.replicate_succ, ← copies_int m z]; rfl
theorem Fk.ints {t e : TypeId} {x y : Operand} {m : Int} {kd kd' : IntKind} (hx : kev k x = some (.int kd m)) (hy : kev k y = some (.int kd' m)) (hs : sliceElem P t = some (e, 1, 8)) (hz : zeroOf P e = some (.int .i64 0)) (hm : 0 ≤ m ∧ m ≤ 2 ^ 20) :
    Fk P n k (.makeSlice t x y) (ic (List.replicate m.toNat 0)) (fun b => .slice (some ⟨b, 0, none⟩) m.toNat m.toNat) := Fk.makeSlice hx hy (by
  have e : (Value.int .i64 0).cells = #[.int .i64 0] := rfl
  simp only [amakeSlice, hs, hz, e]
  rw [if_pos (by simp; omega)]
  simp [copies_int, ic])
theorem Fk.bools {t e : TypeId} {x y : Operand} {m : Int} {kd kd' : IntKind} (hx : kev k x = some (.int kd m)) (hy : kev k y = some (.int kd' m)) (hs : sliceElem P t = some (e, 1, 1)) (hz : zeroOf P e = some (.bool false)) (hm : 0 ≤ m ∧ m ≤ 2 ^ 20) :
    Fk P n k (.makeSlice t x y) (bc (List.replicate m.toNat false)) (fun b => .slice (some ⟨b, 0, none⟩) m.toNat m.toNat) := Fk.makeSlice hx hy (by
  have e : (Value.bool false).cells = #[.bool false] := rfl
  simp only [amakeSlice, hs, hz, e]
  rw [if_pos (by simp; omega)]
  simp [copies_int, bc])

theorem getD_set {α : Type} {l : List α} {i j : Nat} {a d : α} (hi : i < l.length) : (l.set i a).getD j d = if i = j then a else l.getD j d := by
  simp only [List.getD]
  by_cases e : i = j
  · subst e; simp [hi]
  · simp [e, List.getElem?_set]

/-- A loaded test gets a name of its own. -/
theorem Wk.rb {K : Known} {ops : Array Oper} {l : List Oper} {o : Oper} {Q : Fr → St → Prop} {c : Bool} {d : Tmp} (hw : kwanted ops o k = some true) (he : o.dst = some d) (hd : Nat.blt d n = true) (h0 : Rk P n k s o.op (.bool c)) (h : ∀ b, c = b → Wk P K n ops l ((d, .bool b) :: k) s Q) : Wk P K n ops (o :: l) k s Q := Wk.r hw he hd h0 (h c rfl)
theorem Wd.rb {K : Known} {ops : Array Oper} {l : List Oper} {o : Oper} {base i : Nat} {hs rs : List Nat} {Q : Fr → St → Prop} {c : Bool} {d : Tmp} (hw : kwanted ops o k = some true) (he : o.dst = some d) (hd : Nat.blt d n = true) (h0 : Rk P n k s o.op (.bool c)) (ho : hs.all (fun j => ordered (Region.before ops) j i) = true) (h : ∀ b, c = b → Wd P K n ops base hs (i :: rs) (i + 1) l ((d, .bool b) :: k) s Q) :
    Wd P K n ops base hs rs i (o :: l) k s Q := Wd.r hw he hd h0 ho (h c rfl)

theorem Qk.neg {t : TypeId} {x : Operand} {a : Int} (hx : kev k x = some (.int .i64 a)) (hr : -9223372036854775807 ≤ a ∧ a ≤ 9223372036854775807) : Qk P n k (.unOp .neg t x) (.int .i64 (-a)) :=
  Qk.un hx rfl (by
    have e : Op.unary .neg (.int .i64 a) = pure (.int .i64 (-a)) := by
      simp only [Op.unary, Op.intArith, Int.zero_sub]
      rw [IntWalk.i64_in _ (by omega)]
    rw [e]; exact pureVal_pure rfl)

theorem Wc.draw0 {K : Known} {ops : Array Oper} {R : AExit → Fr → St → Prop} {id : Nat} {c : Code} (h0 : room ops.toList = 0) (h : Wd P K n ops s.size [] [] 0 ops.toList k s (nextly P K c R)) : Wc P K n (.seq (.region id ops true) c) k s R := Wc.draw (by rw [h0]; exact h)

/-- A slice of a block of its own. -/
theorem Rk.sub {t e : TypeId} {x lo hi : Operand} {b len cap off bytes : Nat} {a c : Int} {kd kd' : IntKind} {cs : List Value} (hx : kev k x = some (.slice (some ⟨b, off, none⟩) len cap)) (hlo : kev k lo = some (.int kd a)) (hhi : kev k hi = some (.int kd' c)) (ha : arrElem P t = none) (hs : sliceElem P t = some (e, 1, bytes))
    (hg : s.get b = some ⟨cs, .rw⟩) (h : 0 ≤ a ∧ a ≤ c ∧ c ≤ cap ∧ a < cap) : Rk P n k s (.slice t x (some lo) (some hi) none) (.slice (some ⟨b, off + a.toNat, none⟩) (c.toNat - a.toNat) (cap - a.toNat)) :=
  Rk.slice (lov := some (.int kd a)) (hiv := some (.int kd' c)) (mxv := none) hx (by simp [kevO, hlo]) (by simp [kevO, hhi]) rfl (by
    have e1 : abound cap (.int kd' c) = some c.toNat := by simp only [abound]; rw [if_pos (by omega)]
    have e2 : abound c.toNat (.int kd a) = some a.toNat := by simp only [abound]; rw [if_pos (by omega)]
    have e3 : abounds len cap (some (.int kd a)) (some (.int kd' c)) none = some (a.toNat, c.toNat, cap) := by
      delta abounds
      dsimp only
      rw [e1]
      dsimp only
      rw [e2]
      dsimp only
      rw [if_pos (by omega)]
    simp only [aslice, ha, hs, e3, exactCap, hg]
    simp
    omega)

/-- The store gets a name. -/
theorem Wc.store {K : Known} {c : Code} {R : AExit → Fr → St → Prop} (h : ∀ s', s' = s → Wc P K n c k s' R) : Wc P K n c k s R := h s rfl
theorem Wk.store' {K : Known} {ops : Array Oper} {l : List Oper} {Q : Fr → St → Prop} (h : ∀ s', s' = s → Wk P K n ops l k s' Q) : Wk P K n ops l k s Q := h s rfl

end
end Go.Proofs.Ytfgnjndicidpkaa
