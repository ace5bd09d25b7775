/- Slices that grow here: their blocks; appending, shortening. -/
import Derived.Test.YtfgnjndicidpkaaR1
namespace Go.Proofs.Ytfgnjndicidpkaa
open Go.Abs

theorem splice_eq : ∀ {vs cs : List Value} {i : Nat}, i + vs.length ≤ cs.length → splice cs i vs = cs.take i ++ vs ++ cs.drop (i + vs.length)
  | [], cs, i, _ => by simp [splice]
  | v :: vs, cs, i, h => by
    simp only [List.length_cons] at h
    show splice (cs.set i v) (i + 1) vs = _
    rw [splice_eq (by simp; omega)]
    have e1 : (cs.set i v).take (i + 1) = cs.take i ++ [v] := by
      rw [List.take_succ_eq_append_getElem (by simp; omega), List.take_set_of_le (Nat.le_refl _)]
      simp
    have e2 : (cs.set i v).drop (i + 1 + vs.length) = cs.drop (i + (v :: vs).length) := by
      rw [List.drop_set_of_lt (by omega)]
      congr 1
      simp; omega
    rw [e1, e2]
    simp

/-- A slice that was made here: its block, its cells. -/
def OwnAt (s : St) (v : Value) (sz n b : Nat) (cells : List Value) : Prop :=
  ∃ cap md cs, v = .slice (some ⟨b, 0, none⟩) n cap ∧ n ≤ cap ∧ s.get b = some ⟨cs, md⟩ ∧ (md = .rw ∨ (md = .grown sz ∧ 0 < cap)) ∧ cs.length = cap * sz ∧ cs.take (n * sz) = cells

theorem OwnAt.keep {s s' : St} {v : Value} {sz n b : Nat} {cells : List Value} (h : OwnAt s v sz n b cells) (hg : s'.get b = s.get b) : OwnAt s' v sz n b cells := by
  obtain ⟨cap, md, cs, h1, h2, h4, h5⟩ := h
  exact ⟨cap, md, cs, h1, h2, hg.trans h4, h5⟩
theorem OwnAt.lt {s : St} {v : Value} {sz n b : Nat} {cells : List Value} (h : OwnAt s v sz n b cells) : b < s.size := by
  obtain ⟨cap, md, cs, h1, h2, h4, h5⟩ := h
  exact St.get_lt h4
theorem OwnAt.push {s : St} {v : Value} {sz n b : Nat} {cells : List Value} (h : OwnAt s v sz n b cells) (k : Blk) : OwnAt (s.push k) v sz n b cells := h.keep (St.get_push_lt _ _ _ h.lt)
theorem OwnAt.set {s : St} {v : Value} {sz n b c : Nat} {cells : List Value} (h : OwnAt s v sz n b cells) (k : Blk) (hne : c ≠ b) : OwnAt (s.set c k) v sz n b cells := h.keep (St.get_set_other _ _ _ _ hne)

theorem OwnAt.row {s : St} {v : Value} {sz n b : Nat} {cells : List Value} {g : Nat → List Value} (h : OwnAt s v sz n b cells) (hc : ∀ i, i < n → (cells.drop (i * sz)).take sz = g i) : Row s v n sz g := by
  obtain ⟨cap, md, cs, h1, h2, h4, h5, h6, h7⟩ := h
  subst h1
  refine Row.of_get h4 (by rcases h5 with rfl | ⟨rfl, _⟩ <;> simp) h2 fun i hi => ?_
  have hle : i * sz + sz ≤ n * sz := by
    rw [← Nat.succ_mul]; exact Nat.mul_le_mul_right _ hi
  have hle2 : n * sz ≤ cap * sz := Nat.mul_le_mul_right _ h2
  refine ⟨by omega, ?_⟩
  rw [← hc i hi, ← h7, List.drop_take, List.take_take, Nat.min_eq_left (by omega)]

theorem OwnAt.irow {s : St} {v : Value} {b : Nat} {l : List Int} (h : OwnAt s v 1 l.length b (ic l)) : IRow s v l := h.row fun i hi => by
  rw [Nat.mul_one]; exact take_drop_one (ic_get hi)

/-- Elements of this type may be appended. -/
structure ApOk (P : Program) (st xt e : TypeId) (sz bytes : Nat) : Prop where
  elem : sliceElem P st = some (e, sz, bytes)
  small : bytes ≤ 2 ^ 10 ∧ 0 < bytes ∧ 0 < sz
  zero : (zeroOf P e).map (·.cells.size) = some sz
  kind : (P.underlying xt).isSome = true
  noInt : isIntType P xt = false

section
variable {P : Program} {st xt e : TypeId} {sz bytes : Nat} {s : St}

theorem append_own (ha : ApOk P st xt e sz bytes) {v : Value} {n b c off m cap2 : Nat} {sp : Option Nat} {cells new : List Value} (h : OwnAt s v sz n b cells) (hm : 0 < m) (hnm : n + m ≤ 2 ^ 20) (hsrc : s.cells c off (m * sz) = some new) (hl : new.length = m * sz) (hsc : new.all scalar = true) :
    ∃ v' s' b', aappend P s st xt v (.slice (some ⟨c, off, sp⟩) m cap2) = some (v', s') ∧ OwnAt s' v' sz (n + m) b' (cells ++ new) ∧ (b' = b ∨ b' = s.size) ∧ Same [b] s s' := by
  obtain ⟨cap, md, cs, rfl, h2, h4, h5, h6, h7⟩ := h
  have hsz := ha.small.2.2
  have hle2 : n * sz ≤ cap * sz := Nat.mul_le_mul_right _ h2
  have hmd : md ≠ .dead := by rcases h5 with rfl | ⟨rfl, _⟩ <;> simp
  have hcl : s.cells b 0 (n * sz) = some cells := by
    simp only [St.cells, h4]
    rw [if_neg hmd, if_pos (by omega)]
    simp [h7]
  have src : asource P s e sz (isIntType P xt) (.slice (some ⟨c, off, sp⟩) m cap2) = some (new, m) := by
    simp only [asource, ha.noInt]
    rw [if_neg (by simp), if_neg (by omega), hsrc]
    rfl
  have hcell : cells.length = n * sz := by rw [← h7, List.length_take]; omega
  have hcond : bytes ≤ 2 ^ 10 ∧ 0 < bytes ∧ 0 < sz ∧ new.length = m * sz ∧ (zeroOf P e).map (·.cells.size) = some sz ∧ (P.underlying xt).isSome ∧ new.all scalar = true := ⟨ha.small.1, ha.small.2.1, hsz, hl, ha.zero, ha.kind, hsc⟩
  by_cases hcap : n + m ≤ cap
  · have hle3 : (n + m) * sz ≤ cap * sz := Nat.mul_le_mul_right _ hcap
    rw [Nat.add_mul] at hle3
    refine ⟨.slice (some ⟨b, 0, none⟩) (n + m) cap, s.set b ⟨splice cs (n * sz) new, md⟩, b, ?_, ⟨cap, md, splice cs (n * sz) new, rfl, hcap, gsetn h4, h5, ?_, ?_⟩, .inl rfl, (Same.refl _ _).set (.inr (by simp))⟩
    · simp only [aappend, ha.elem, src]
      rw [if_neg (not_not_intro hcond)]
      rw [if_neg (by omega), if_neg (by omega), if_neg (by simp), if_neg (by simp), if_pos hcap]
      have hw : md.writable = true := by rcases h5 with rfl | ⟨rfl, _⟩ <;> rfl
      simp only [St.setCells, h4]
      rw [if_pos (by simp [hw, hl]; exact ⟨by omega, by simpa using hsc⟩)]
      simp
    · rw [splice_eq (by omega)]; simp; omega
    · rw [splice_eq (by omega), h7, Nat.add_mul, ← hl, ← hcell, ← List.length_append, List.take_left]
  · by_cases hg : md = .rw
    · subst hg
      refine ⟨.slice (some ⟨s.size, 0, none⟩) (n + m) (n + m), s.push ⟨cells ++ new, .grown sz⟩, s.size, ?_, ⟨n + m, _, _, rfl, Nat.le_refl _, gnew, .inr ⟨rfl, by omega⟩, by rw [List.length_append, hcell, hl, Nat.add_mul], by rw [Nat.add_mul, ← hcell, ← hl, ← List.length_append, List.take_length]⟩, .inr rfl, (Same.refl _ _).push _⟩
      simp only [aappend, ha.elem, src]
      rw [if_neg (not_not_intro hcond)]
      rw [if_neg (by omega), if_neg (by omega), if_neg (by simp), if_neg (by simp), if_neg hcap]
      simp only [hcl, exactCap, h4, St.grow]
      rfl
    · have hg' : md = .grown sz := (h5.resolve_left hg).1
      subst hg'
      refine ⟨.slice (some ⟨s.size, 0, none⟩) (n + m) (n + m), (s.set b ⟨cs, .dead⟩).push ⟨cells ++ new, .grown sz⟩, s.size, ?_, ⟨n + m, _, _, rfl, Nat.le_refl _, by have := gnew (s := s.set b ⟨cs, .dead⟩) (k := ⟨cells ++ new, .grown sz⟩); rwa [St.size_set] at this, .inr ⟨rfl, by omega⟩, by rw [List.length_append, hcell, hl, Nat.add_mul], by rw [Nat.add_mul, ← hcell, ← hl, ← List.length_append, List.take_length]⟩, .inr rfl, ((Same.refl _ _).set (.inr (by simp))).push _⟩
      simp only [aappend, ha.elem, src]
      rw [if_neg (not_not_intro hcond)]
      rw [if_neg (by omega), if_neg (by omega), if_neg (by simp), if_neg (by simp), if_neg hcap]
      simp only [hcl, exactCap, h4, St.grow, kill, St.size_set]
      simp

theorem append_nil (ha : ApOk P st xt e sz bytes) {c off m cap2 : Nat} {sp : Option Nat} {new : List Value} (hm : 0 < m) (hnm : m ≤ 2 ^ 20) (hsrc : s.cells c off (m * sz) = some new) (hl : new.length = m * sz) (hsc : new.all scalar = true) :
    ∃ v' s', aappend P s st xt (.slice none 0 0) (.slice (some ⟨c, off, sp⟩) m cap2) = some (v', s') ∧ OwnAt s' v' sz m s.size new ∧ Same [] s s' := by
  have src : asource P s e sz (isIntType P xt) (.slice (some ⟨c, off, sp⟩) m cap2) = some (new, m) := by
    simp only [asource, ha.noInt]
    rw [if_neg (by simp), if_neg (by omega), hsrc]
    rfl
  have hcond : bytes ≤ 2 ^ 10 ∧ 0 < bytes ∧ 0 < sz ∧ new.length = m * sz ∧ (zeroOf P e).map (·.cells.size) = some sz ∧ (P.underlying xt).isSome ∧ new.all scalar = true := ⟨ha.small.1, ha.small.2.1, ha.small.2.2, hl, ha.zero, ha.kind, hsc⟩
  refine ⟨.slice (some ⟨s.size, 0, none⟩) m m, s.push ⟨new, .grown sz⟩, ?_, ⟨m, _, _, rfl, Nat.le_refl _, gnew, .inr ⟨rfl, hm⟩, hl, by rw [← hl, List.take_length]⟩, (Same.refl _ _).push _⟩
  simp only [aappend, ha.elem, src]
  rw [if_neg (not_not_intro hcond)]
  rw [if_neg (by omega), if_pos hnm]
  rfl

theorem cells_add {b i n m : Nat} {l l' : List Value} (h1 : s.cells b i n = some l) (h2 : s.cells b (i + n) m = some l') : s.cells b i (n + m) = some (l ++ l') := by
  unfold St.cells at h1 h2 ⊢
  split at h1
  · rename_i cs md hg
    rw [hg] at h2
    simp only at h2
    split at h1
    · cases h1
    · rename_i hm
      rw [if_neg hm] at h2
      split at h1
      · rename_i hl
        split at h2
        · rename_i hl2
          simp only [Option.some.injEq] at h1 h2
          simp only [if_neg hm]
          rw [if_pos (by omega), ← h1, ← h2, List.take_add, List.drop_drop]
        · cases h2
      · cases h1
  · cases h1

/-- All cells of a row. -/
theorem Row.bulk {m sz : Nat} {g : Nat → List Value} {b off : Nat} (h : ∀ i, i < m → s.cells b (off + i * sz) sz = some (g i)) : ∀ j, 0 < j → j ≤ m → s.cells b off (j * sz) = some ((List.range j).flatMap g)
  | 0, hj, _ => absurd hj (Nat.lt_irrefl _)
  | j + 1, _, hj => by
    rw [Nat.add_mul, Nat.one_mul, List.range_succ, List.flatMap_append]
    simp only [List.flatMap_cons, List.flatMap_nil, List.append_nil]
    by_cases h0 : j = 0
    · subst h0
      have := h 0 (by omega)
      simpa using this
    · exact cells_add (Row.bulk h j (by omega) (by omega)) (h j (by omega))

theorem range_ic (l : List Int) : (List.range l.length).flatMap (fun i => [.int .i64 (l.getD i 0)]) = ic l := by
  apply List.ext_getElem?
  intro i
  rw [show (List.range l.length).flatMap (fun i => [Value.int .i64 (l.getD i 0)]) = (List.range l.length).map (fun i => Value.int .i64 (l.getD i 0)) by induction List.range l.length <;> simp_all]
  by_cases hi : i < l.length
  · rw [ic_get hi]; simp [hi]
  · simp [ic, hi]

theorem ic_scalar (l : List Int) : (ic l).all scalar = true := by simp [ic, scalar]
/-- A slice that is nil, or has grown here. -/
def Grew (s : St) (base : Nat) (v : Value) (sz n : Nat) (cells : List Value) (bo : Option Nat) : Prop := (bo = none ∧ v = .slice none 0 0 ∧ n = 0 ∧ cells = []) ∨ ∃ b, bo = some b ∧ base ≤ b ∧ OwnAt s v sz n b cells

theorem append_grew (ha : ApOk P st xt e sz bytes) {v : Value} {n base c off m cap2 : Nat} {bo sp : Option Nat} {cells new : List Value} (h : Grew s base v sz n cells bo) (hb : base ≤ s.size) (hm : 0 < m) (hnm : n + m ≤ 2 ^ 20) (hsrc : s.cells c off (m * sz) = some new) (hl : new.length = m * sz) (hsc : new.all scalar = true) :
    ∃ v' s' b', aappend P s st xt v (.slice (some ⟨c, off, sp⟩) m cap2) = some (v', s') ∧ Grew s' base v' sz (n + m) (cells ++ new) (some b') ∧ (some b' = bo ∨ b' = s.size) ∧ Same bo.toList s s' := by
  rcases h with ⟨rfl, rfl, rfl, rfl⟩ | ⟨b, rfl, h1, h2⟩
  · obtain ⟨v', s', h3, h4, h5⟩ := append_nil (s := s) ha (sp := sp) (cap2 := cap2) hm (by omega) hsrc hl hsc
    exact ⟨v', s', s.size, h3, .inr ⟨_, rfl, hb, by simpa using h4⟩, .inr rfl, h5⟩
  · obtain ⟨v', s', b', h3, h4, h5, h6⟩ := append_own (s := s) ha (sp := sp) (cap2 := cap2) h2 hm hnm hsrc hl hsc
    refine ⟨v', s', b', h3, .inr ⟨b', rfl, ?_, h4⟩, ?_, h6⟩
    · rcases h5 with rfl | rfl <;> omega
    · rcases h5 with rfl | rfl
      · exact .inl rfl
      · exact .inr rfl

/-- Nothing is appended. -/
theorem append_zero (ha : ApOk P st xt e sz bytes) {v : Value} {n base cap2 : Nat} {a : Option Addr} {bo : Option Nat} {cells : List Value} (h : Grew s base v sz n cells bo) (hn : n ≤ 2 ^ 20) (hc : a = none → cap2 = 0) : aappend P s st xt v (.slice a 0 cap2) = some (v, s) := by
  have src : asource P s e sz (isIntType P xt) (.slice a 0 cap2) = some ([], 0) := by
    simp only [asource, ha.noInt]
    rw [if_neg (by simp)]
    cases a with
    | none => rfl
    | some x => obtain ⟨b, off, sp⟩ := x; simp
  have hcond : bytes ≤ 2 ^ 10 ∧ 0 < bytes ∧ 0 < sz ∧ ([] : List Value).length = 0 * sz ∧ (zeroOf P e).map (·.cells.size) = some sz ∧ (P.underlying xt).isSome ∧ ([] : List Value).all scalar = true := ⟨ha.small.1, ha.small.2.1, ha.small.2.2, by simp, ha.zero, ha.kind, rfl⟩
  rcases h with ⟨rfl, rfl, rfl, rfl⟩ | ⟨b, rfl, h1, cap, md, cs, rfl, h2, h3⟩
  · simp only [aappend, ha.elem, src]
    rw [if_neg (not_not_intro hcond)]
    simp
  · simp only [aappend, ha.elem, src]
    rw [if_neg (not_not_intro hcond), if_neg (by omega)]
    simp [h2]

/-- A whole row of integers, of arcs, is appended. -/
theorem append_ints (ha : ApOk P st xt e 1 bytes) {v y : Value} {n base : Nat} {bo : Option Nat} {cells : List Value} {ys : List Int} (h : Grew s base v 1 n cells bo) (hb : base ≤ s.size) (hy : IRow s y ys) (hnm : n + ys.length ≤ 2 ^ 20) :
    ∃ v' s' bo', aappend P s st xt v y = some (v', s') ∧ Grew s' base v' 1 (n + ys.length) (cells ++ ic ys) bo' ∧ (bo' = bo ∨ bo' = some s.size) ∧ Same bo.toList s s' := by
  obtain ⟨a, cap, rfl, h1, h2⟩ := hy
  by_cases h0 : ys.length = 0
  · have hys : ys = [] := List.length_eq_zero_iff.1 h0
    subst hys
    exact ⟨v, s, bo, append_zero ha h (by simp at hnm; omega) h1.2, by simpa [ic] using h, .inl rfl, Same.refl _ _⟩
  · obtain ⟨b, off, sp, rfl, h3⟩ := h2 (by omega)
    have h4 := Row.bulk h3 ys.length (by omega) (Nat.le_refl _)
    rw [range_ic] at h4
    obtain ⟨v', s', b', h5, h6, h7, h8⟩ := append_grew ha (sp := sp) (cap2 := cap) h hb (by omega) hnm h4 (by simp [ic_len]) (ic_scalar _)
    exact ⟨v', s', some b', h5, h6, h7.imp_right (fun e => by rw [e]), h8⟩
theorem Grew.keep {s s' : St} {base : Nat} {v : Value} {sz n : Nat} {cells : List Value} {bo : Option Nat} (h : Grew s base v sz n cells bo) (hg : ∀ b, bo = some b → s'.get b = s.get b) : Grew s' base v sz n cells bo := by
  rcases h with h | ⟨b, rfl, h1, h2⟩
  · exact .inl h
  · exact .inr ⟨b, rfl, h1, h2.keep (hg b rfl)⟩
theorem Grew.lt {base : Nat} {v : Value} {sz n : Nat} {cells : List Value} {b : Nat} (h : Grew s base v sz n cells (some b)) : b < s.size ∧ base ≤ b := by
  rcases h with ⟨h, _⟩ | ⟨b', h0, h1, h2⟩
  · cases h
  · cases h0; exact ⟨h2.lt, h1⟩
theorem Grew.same {s s' : St} {base : Nat} {v : Value} {sz n : Nat} {cells : List Value} {bo : Option Nat} {M : List Nat} (h : Grew s base v sz n cells bo) (hs : Same M s s') (hm : ∀ b, bo = some b → b ∉ M) : Grew s' base v sz n cells bo :=
  h.keep fun b e => hs.2.1 b (by subst e; exact h.lt.1) (hm b e)
theorem Grew.irow {base : Nat} {v : Value} {l : List Int} {bo : Option Nat} (h : Grew s base v 1 l.length (ic l) bo) : IRow s v l := by
  rcases h with ⟨_, rfl, h0, _⟩ | ⟨b, _, _, h2⟩
  · exact ⟨none, 0, by rw [h0], ⟨by omega, fun _ => rfl⟩, fun h => by omega⟩
  · exact h2.irow
theorem OwnAt.sc {v : Value} {sz n b : Nat} {cells : List Value} (h : OwnAt s v sz n b cells) : v.cells = #[v] ∧ scalar v = true ∧ isVal v = true := by
  obtain ⟨cap, md, cs, rfl, _⟩ := h
  exact ⟨rfl, rfl, rfl⟩
theorem Grew.sc {base : Nat} {v : Value} {sz n : Nat} {cells : List Value} {bo : Option Nat} (h : Grew s base v sz n cells bo) : v.cells = #[v] ∧ scalar v = true ∧ isVal v = true := by
  rcases h with ⟨_, rfl, _⟩ | ⟨b, _, _, h2⟩
  · exact ⟨rfl, rfl, rfl⟩
  · exact h2.sc
theorem Grew.nil {base sz : Nat} : Grew s base (.slice none 0 0) sz 0 [] none := .inl ⟨rfl, rfl, rfl, rfl⟩

/-- A slice that has grown here is made shorter. -/
theorem slice_own {t : TypeId} {v : Value} {n b : Nat} {cells : List Value} {kd : IntKind} {c : Int} (har : arrElem P t = none) (hs : sliceElem P t = some (e, sz, bytes)) (hsz : 0 < sz) (h : OwnAt s v sz n b cells) (hc : 0 ≤ c ∧ c ≤ n) :
    ∃ v', aslice P s t v none (some (.int kd c)) none = some v' ∧ OwnAt s v' sz c.toNat b (cells.take (c.toNat * sz)) := by
  obtain ⟨cap, md, cs, rfl, h2, h4, h5, h6, h7⟩ := h
  have hle2 : c.toNat * sz ≤ n * sz := Nat.mul_le_mul_right _ (by omega)
  refine ⟨.slice (some ⟨b, 0, none⟩) c.toNat cap, ?_, ⟨cap, md, cs, rfl, by omega, h4, h5, h6, by rw [← h7, List.take_take, Nat.min_eq_left hle2]⟩⟩
  have e1 : abound cap (.int kd c) = some c.toNat := by simp only [abound]; rw [if_pos (by omega)]
  have e3 : abounds n cap none (some (.int kd c)) none = some (0, c.toNat, cap) := by
    delta abounds
    dsimp only
    rw [e1]
    dsimp only
    rw [if_pos (by omega)]
  rcases h5 with rfl | ⟨rfl, h3⟩
  · simp only [aslice, har, hs, e3, exactCap, h4]
    simp
  · simp only [aslice, har, hs, e3, exactCap, h4]
    simp
    omega
theorem Fk.one {n : Nat} {k : Kn} {t e : TypeId} {x : Operand} {ps : Array (Nat × Operand)} {v z : Value} {sz bytes : Nat} (hps : ps.toList = [(0, x)]) (hx : kev k x = some v) (hs : sliceElem P t = some (e, sz, bytes)) (hz : zeroOf P e = some z) (hzs : z.cells.size = sz) (hv : isVal v = true) (hvs : v.cells.size = sz) (hsz : 0 < sz ∧ sz ≤ 2 ^ 20) :
    Fk P n k (.buildSlice t 1 ps) v.cells.toList (fun b => .slice (some ⟨b, 0, none⟩) 1 1) :=
  Fk.buildSlice (vs := [(0, v)]) (by rw [hps]; simp [kevParts, hx]) (by
    have e1 : splice (copies 1 z.cells.toList) 0 v.cells.toList = v.cells.toList := splice_all (pre := []) (cs := copies 1 z.cells.toList) (vs := v.cells.toList) (i := 0) rfl (by simp [copies]; omega)
    simp only [abuildSlice, hs, hz]
    rw [if_pos (by omega)]
    simp only [afill]
    rw [if_pos ⟨hv, hvs, by simp [copies]; omega⟩, Nat.zero_mul, e1])

theorem We.store' {K : Known} {n i base : Nat} {k : Kn} {hs : List (Nat × St)} {rs : List (Nat × (St → Prop))} {ops : Array Oper} {l : List Oper} {Q : Fr → St → Prop} (h : ∀ s', s' = s → We P K n ops base hs rs i l k s' Q) : We P K n ops base hs rs i l k s Q := h s rfl
theorem Wd.store' {K : Known} {n i base : Nat} {k : Kn} {hs rs : List Nat} {ops : Array Oper} {l : List Oper} {Q : Fr → St → Prop} (h : ∀ s', s' = s → Wd P K n ops base hs rs i l k s' Q) : Wd P K n ops base hs rs i l k s Q := h s rfl

/-- What two ways lead to. -/
theorem Wc.join {K : Known} {n : Nat} {k : Kn} {a r : Code} {R : AExit → Fr → St → Prop} {σ : Type} (I : σ → Prop) (kn : σ → Kn) (st : σ → St) (ha : Wc P K n (.seq a .skip) k s (andThen (fun fr s => ∃ y, I y ∧ s = st y ∧ Knows n fr (kn y)) R)) (hr : ∀ y, I y → Wc P K n r (kn y) (st y) R) : Wc P K n (.seq a r) k s R := fun fr hf =>
  Wp.seq ((Wc.tail ha fr hf).mono fun e fr s he => by
    cases e with
    | normal =>
      obtain ⟨y, h1, h2, h3⟩ := he
      subst h2
      exact hr y h1 fr h3
    | exit i => exact he
    | ret => exact he)
end

/-- Results that lie in cells. -/
theorem ares_nil {P : Program} {n : Nat} {k : Kn} {s : St} : ∀ fr, Knows n fr k → aresultList P fr s [] = some [] := fun _ _ => rfl
theorem ares_tmp {P : Program} {n : Nat} {k : Kn} {s : St} {t : Tmp} {v : Value} {l : List ResultVar} {vs : List Value} (h : kget k t = some v) (hr : ∀ fr, Knows n fr k → aresultList P fr s l = some vs) : ∀ fr, Knows n fr k → aresultList P fr s (.tmp t :: l) = some (v :: vs) := fun fr hf => by
  simp only [aresultList, aresult, hf.2 t v h, hr fr hf]
theorem ares_cell {P : Program} {n : Nat} {k : Kn} {s : St} {a : Tmp} {t : TypeId} {p v : Value} {l : List ResultVar} {vs : List Value} (h : kget k a = some p) (hl : aload P s t p = some v) (hr : ∀ fr, Knows n fr k → aresultList P fr s l = some vs) : ∀ fr, Knows n fr k → aresultList P fr s (.cell a t :: l) = some (v :: vs) := fun fr hf => by
  simp only [aresultList, aresult, hf.2 a p h, hl, hr fr hf]
theorem Wc.doneC {P : Program} {K : Known} {n : Nat} {k : Kn} {s : St} {R : AExit → Fr → St → Prop} {c : Code} {fn : Func} {Q : Value → St → Prop} {vs : List Value} (hr : ∀ fr s, R AExit.ret fr s = Abs.Ends P fn Q AExit.ret fr s) (hv : ∀ fr, Knows n fr k → aresultList P fr s fn.results.toList = some vs) (hq : Q (pack vs) s) : Wc P K n (.seq .ret c) k s R := Wc.ret fun fr hf => by
  rw [hr]
  refine ⟨pack vs, ?_, hq⟩
  unfold aresults
  rw [hv fr hf]
  unfold pack
  match vs with
  | [] => rfl
  | [v] => rfl
  | v :: u :: l => rfl

theorem Old.reserve (s : St) : ∀ n, Old s (reserve s n) := fun n => ⟨by rw [size_reserve]; omega, fun b hb => (get_reserve n s b).1 hb, .eq (loops_reserve n s)⟩
theorem greserve {s : St} {b n : Nat} {x : Blk} (h : s.get b = some x) : (reserve s n).get b = some x := by rw [(get_reserve n s b).1 (St.get_lt h)]; exact h
theorem gnone {s : St} {i n : Nat} (h : i < n) : (reserve s n).get (s.size + i) = some ⟨[], .dead⟩ := (get_reserve n s _).2 (by omega) (by omega)


end Go.Proofs.Ytfgnjndicidpkaa
