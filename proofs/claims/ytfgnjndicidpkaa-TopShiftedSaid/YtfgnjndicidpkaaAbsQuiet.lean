/- The quiet operations, the reading ones and those that make a block. -/
import Derived.Test.YtfgnjndicidpkaaAbsOps
namespace Go.Abs

section
variable {P : Program} {f : FMap} {g : LMap} {s : St} {w : World} {fr : Fr} {ρ : Operand → Value}

theorem addr_add (b o m : Nat) : (⟨b, o, none⟩ : Addr).add m = ⟨b, o + m, none⟩ := by
  unfold Addr.add
  split
  · rename_i e; subst e; rfl
  · rfl

theorem map_splain (hρ : ∀ x, VRel f g (ev fr x) (ρ x)) {args : Array Operand} (h : (args.map (ev fr)).toList.all splain = true) : args.map ρ = args.map (ev fr) := by
  apply Array.map_congr_left
  intro x hx
  simp only [Array.toList_map, List.all_map, List.all_eq_true, Function.comp] at h
  exact splain_rel (hρ x) (h x (by simpa using hx))

theorem quiet_run (hρ : ∀ x, VRel f g (ev fr x) (ρ x)) {o : Oper} {v : Value} (h : aquiet P o.op fr = some v) :
    ∃ v', VRel f g v v' ∧ ∀ w, (execOp ρ o).run P w = .ok (.value v') w := by
  have lift : ∀ {x : Sem Value} {v' : Value}, (∀ w, x.run P w = .ok v' w) → ∀ w, (do pure (.value (← x)) : Sem Next).run P w = .ok (.value v') w := fun hx w => by
    simp [hx w]
  unfold aquiet at h
  split at h
  · rename_i x ho
    simp only [Option.some.injEq] at h
    subst h
    exact ⟨_, hρ x, fun w => by simp [execOp, ho]⟩
  · rename_i x ho
    simp only [Option.some.injEq] at h
    subst h
    exact ⟨_, hρ x, fun w => by simp [execOp, ho]⟩
  · rename_i c a b ho
    split at h
    · rename_i t hc
      simp only [Option.some.injEq] at h
      have hb : ρ c = .bool t := splain_rel (hc ▸ hρ c) rfl
      refine ⟨if t then ρ a else ρ b, ?_, fun w => by simp [execOp, ho, hb, asBool]⟩
      subst h
      cases t
      · exact hρ b
      · exact hρ a
    · cases h
  · rename_i t parts ho
    obtain ⟨v', h1, h2⟩ := build_rel h (parts_rel hρ parts.toList)
    refine ⟨v', h1, fun w => ?_⟩
    have e : (parts.map fun (i, x) => (i, ρ x)) = (parts.toList.map fun (i, x) => (i, ρ x)).toArray := by rw [← Array.toList_map, Array.toArray_toList]
    simp only [execOp, ho, e]
    exact lift h2 w
  · rename_i x ho
    exact nilCheck_rel ho h (hρ x) rfl
  · rename_i op t x y _ ho
    obtain ⟨v', h1, h2⟩ := bin_rel h (hρ x) (hρ y)
    refine ⟨v', h1, fun w => ?_⟩
    simp only [execOp, ho]
    exact lift h2 w
  · rename_i op _ x ho
    split at h
    · rename_i hp
      obtain ⟨h1, h2⟩ := pureVal_run (f := f) (g := g) h
      refine ⟨v, h1, fun w => ?_⟩
      simp only [execOp, ho, plain_rel (hρ x) hp]
      exact lift h2 w
    · cases h
  · rename_i a b x ho
    split at h
    · rename_i hp
      obtain ⟨h1, h2⟩ := pureVal_run (f := f) (g := g) h
      refine ⟨v, h1, fun w => ?_⟩
      simp only [execOp, ho, plain_rel (hρ x) hp]
      exact lift h2 w
    · cases h
  · rename_i k a b ho
    simp only [Option.some.injEq] at h
    subst h
    have ha := VsRel.map_ev hρ a.toList
    have hb := VsRel.map_ev hρ b.toList
    refine ⟨.func (.func k) (a.map ρ) (b.map ρ), .func (by simp) (by simp) ?_ ?_, fun w => by simp [execOp, ho, Instr.makeFunc]⟩
    · simpa using ha.2
    · simpa using hb.2
  · rename_i t x i ho
    obtain ⟨v', h1, h2⟩ := fieldAddr_rel h (hρ x)
    exact ⟨v', h1, fun w => by simp only [execOp, ho]; exact lift h2 w⟩
  · rename_i t x i ho
    obtain ⟨v', h1, h2⟩ := field_rel h (hρ x)
    exact ⟨v', h1, fun w => by simp only [execOp, ho]; exact lift h2 w⟩
  · rename_i t x i ho
    obtain ⟨v', h1, h2⟩ := indexAddr_rel h (hρ x) (hρ i)
    exact ⟨v', h1, fun w => by simp only [execOp, ho]; exact lift h2 w⟩
  · rename_i t x i ho
    obtain ⟨v', h1, h2⟩ := index_rel h (hρ x) (hρ i)
    exact ⟨v', h1, fun w => by simp only [execOp, ho]; exact lift h2 w⟩
  · rename_i x i ho
    obtain ⟨v', h1, h2⟩ := extract_rel h (hρ x)
    exact ⟨v', h1, fun w => by simp only [execOp, ho]; exact lift h2 w⟩
  · rename_i args argTypes ho
    have run : ∀ {x : Operand} {t : TypeId} {v' : Value}, args = #[x] → argTypes = #[t] → (∀ w, (Builtin.len_ #[t] 0 #[ρ x]).run P w = .ok v' w) → ∀ w, (execOp ρ o).run P w = .ok (.value v') w := by
      intro x t v' e1 e2 hrun w
      subst e1 e2
      have h0 : ∀ ty, Builtin.len_ #[t] ty #[ρ x] = Builtin.len_ #[t] 0 #[ρ x] := fun _ => rfl
      simp [execOp, ho, resolve, invoke, builtin, h0, hrun]
    split at h
    · rename_i x t ha ht
      have ea : args = #[x] := by rw [← Array.toArray_toList (xs := args), ha]
      have et : argTypes = #[t] := by rw [← Array.toArray_toList (xs := argTypes), ht]
      have hx := hρ x
      split at h
      · rename_i a n c e hv hs
        obtain ⟨e, size, bytes⟩ := e
        obtain ⟨j, hu, hi, rfl, rfl⟩ := sliceElem_some hs
        simp only [Option.some.injEq] at h
        subst h
        rw [hv] at hx
        have hsl : ∃ a' c', ρ x = .slice a' n c' := by
          generalize ρ x = y at hx
          cases hx with
          | plain hp => exact ⟨_, _, rfl⟩
          | slice => exact ⟨_, _, rfl⟩
          | sliceX => exact ⟨_, _, rfl⟩
          | sliceE => exact ⟨_, _, rfl⟩
          | slice0 => exact ⟨_, _, rfl⟩
        obtain ⟨a', c', hy⟩ := hsl
        refine ⟨_, .plain rfl, run ea et fun w => ?_⟩
        simp [Builtin.len_, run_underlying_some hu, hy]
      · split at h
        · rename_i n e size he
          obtain ⟨j, hu, hi, rfl⟩ := arrElem_some he
          simp only [Option.some.injEq] at h
          subst h
          refine ⟨_, .plain rfl, run ea et fun w => ?_⟩
          simp only [Builtin.len_, Sem.run_bind, run_underlying_some hu, Result.andThen_ok, List.getElem?_toArray, List.getElem?_cons_zero]
          cases ρ x <;> rfl
        · split at h
          · rename_i hp
            obtain ⟨h1, h2⟩ := pureVal_run (f := f) (g := g) h
            refine ⟨v, h1, run ea et fun w => ?_⟩
            rw [plain_rel hx hp]
            exact h2 w
          · cases h
    · cases h
  · rename_i args argTypes ho
    split at h
    · rename_i hp
      obtain ⟨h1, h2⟩ := pureVal_run (f := f) (g := g) h
      refine ⟨v, h1, fun w => ?_⟩
      have h0 : ∀ a ty, Builtin.min_ a ty (args.map (ev fr)) = Builtin.min_ #[] 0 (args.map (ev fr)) := fun _ _ => rfl
      simp only [execOp, ho, resolve, invoke, builtin, map_splain hρ hp, Sem.run_bind, Sem.run_pure, Result.andThen_ok, h0, h2]
    · cases h
  · rename_i args argTypes ho
    split at h
    · rename_i hp
      obtain ⟨h1, h2⟩ := pureVal_run (f := f) (g := g) h
      refine ⟨v, h1, fun w => ?_⟩
      have h0 : ∀ a ty, Builtin.max_ a ty (args.map (ev fr)) = Builtin.max_ #[] 0 (args.map (ev fr)) := fun _ _ => rfl
      simp only [execOp, ho, resolve, invoke, builtin, map_splain hρ hp, Sem.run_bind, Sem.run_pure, Result.andThen_ok, h0, h2]
    · cases h
  · rename_i args argTypes ho
    split at h
    · rename_i hp
      obtain ⟨h1, h2⟩ := pureVal_run (f := f) (g := g) h
      refine ⟨v, h1, fun w => ?_⟩
      have h0 : ∀ ty, Builtin.cap_ argTypes ty (args.map (ev fr)) = Builtin.cap_ argTypes 0 (args.map (ev fr)) := fun _ => rfl
      simp only [execOp, ho, resolve, invoke, builtin, map_splain hρ hp, Sem.run_bind, Sem.run_pure, Result.andThen_ok, h0, h2]
    · cases h
  · cases h

/-! ### Reading -/

theorem cell_rel (h : Inj f g s w) {b off : Nat} {p : Place} {v : Value} (hf : f b = some p) (hc : s.cell b off = some v) : ∃ v', w.cell? ⟨p.block, p.off + off, none⟩ = some v' ∧ VRel f g v v' := by
  unfold St.cell at hc
  split at hc
  · rename_i cs m hk
    split at hc
    · cases hc
    · rename_i hm
      obtain ⟨ds, e, fz, h1, _, _, _, h4⟩ := h.blk b p ⟨cs, m⟩ hf hk hm
      have hi : off < cs.length := (List.getElem?_eq_some_iff.1 hc).1
      obtain ⟨v', h5, h6⟩ := h4 off hi
      refine ⟨v', by simp [World.cell?, h1, h5], ?_⟩
      simpa [List.getD, hc] using h6
  · cases hc

theorem cells_rel (h : Inj f g s w) {b off n : Nat} {p : Place} {l : List Value} (hf : f b = some p) (hc : s.cells b off n = some l) :
    ∃ l', l.length = n ∧ VsRel f g l l' ∧ (∀ j v, l'[j]? = some v → w.cell? ((⟨p.block, p.off + off, none⟩ : Addr).add j) = some v) := by
  unfold St.cells at hc
  split at hc
  · rename_i cs m hk
    split at hc
    · cases hc
    · rename_i hm
      split at hc
      · rename_i hlen
        simp only [Option.some.injEq] at hc
        subst hc
        obtain ⟨ds, e, fz, h1, _, _, _, h4⟩ := h.blk b p ⟨cs, m⟩ hf hk hm
        simp only at h4
        have hadd : ∀ j, (⟨p.block, p.off + off, none⟩ : Addr).add j = ⟨p.block, p.off + off + j, none⟩ := fun j => addr_add _ _ _
        refine ⟨(ds.toList.drop (p.off + off)).take n, by simp; omega, ?_, ?_⟩
        · have hl : n ≤ ds.size - (p.off + off) := by
            by_cases hn : n = 0
            · omega
            · obtain ⟨v', h5, _⟩ := h4 (off + (n - 1)) (by omega)
              have := (Array.getElem?_eq_some_iff.1 h5).1
              omega
          refine ⟨by simp; omega, fun j => ?_⟩
          by_cases hj : j < n
          · obtain ⟨v', h5, h6⟩ := h4 (off + j) (by omega)
            have h7 : ds.toList[p.off + off + j]? = some v' := by rw [Array.getElem?_toList, Nat.add_assoc]; exact h5
            simp only [List.getD, List.getElem?_take, hj, if_true, List.getElem?_drop, h7, Option.getD_some]
            simpa [List.getD] using h6
          · simp only [List.getD, List.getElem?_take, hj, if_false, Option.getD_none]
            exact VRel.undef' _
        · intro j v hv
          rw [hadd]
          simp only [List.getElem?_take, List.getElem?_drop] at hv
          split at hv
          · simp only [World.cell?, h1]
            simpa using hv
          · cases hv
      · cases hc
  · cases hc

theorem run_loadCells_rel (h : Inj f g s w) {b off n : Nat} {p : Place} {l : List Value} (hf : f b = some p) (hc : s.cells b off n = some l) :
    ∃ l', VsRel f g l l' ∧ ∀ w', w'.heap = w.heap → (loadCells ⟨p.block, p.off + off, none⟩ n).run P w' = .ok l'.toArray w' := by
  obtain ⟨l', h1, h2, h3⟩ := cells_rel h hf hc
  refine ⟨l', h2, fun w' hw => ?_⟩
  have := run_loadCells_list (P := P) w' ⟨p.block, p.off + off, none⟩ l' (fun j v hv => (World.cell?_of_block (w := w) (w' := w') (by rw [hw])).trans (h3 j v hv))
  rwa [← h2.1, h1] at this

theorem load_rel (h : Inj f g s w) {t : TypeId} {x x' v : Value} (ha : aload P s t x = some v) (hx : VRel f g x x') : ∃ v', VRel f g v v' ∧ (Instr.loadAt t x').run P w = .ok v' w := by
  unfold aload at ha
  split at ha
  · rename_i b off
    cases hx with
    | plain hp => simp [splain] at hp
    | @ptr _ _ p hp =>
      split at ha
      · rename_i n hs
        obtain ⟨d, i, hu, hi, hb, rfl⟩ := shapeOf_some hs
        simp only [Option.map_eq_some_iff] at ha
        obtain ⟨l, hl, rfl⟩ := ha
        obtain ⟨l', h1, h2⟩ := run_loadCells_rel (P := P) h hp hl
        refine ⟨.agg l'.toArray, .agg (by simpa using h1.1) (by simpa using h1.2), ?_⟩
        simp only [Instr.loadAt, Instr.sureAddr, loadVar, Sem.run_bind, Sem.run_pure, Result.andThen_ok, run_isAgg hu, ← hb, if_true, run_sizeOf_some hi, h2 w rfl]
      · rename_i n hs
        obtain ⟨d, i, hu, hi, hb, rfl⟩ := shapeOf_some hs
        obtain ⟨v', h1, h2⟩ := cell_rel h hp ha
        refine ⟨v', h2, ?_⟩
        simp only [Instr.loadAt, Instr.sureAddr, loadVar, Sem.run_bind, Sem.run_pure, Result.andThen_ok, run_isAgg hu, ← hb, Bool.false_eq_true, if_false, run_load, h1]
      · cases ha
  · cases ha


theorem bound_rel {y y' : Nat} {v v' : Value} {i : Nat} (h : abound y v = some i) (hv : VRel f g v v') (hy : y ≤ y') (c : BoundsCode) (w : World) : (Instr.sliceBound v' y' c).run P w = .ok i w ∧ i ≤ y := by
  unfold abound at h
  split at h
  · rename_i k j
    rw [splain_rel hv rfl]
    split at h
    · rename_i hb
      simp only [Option.some.injEq] at h
      subst h
      refine ⟨?_, by omega⟩
      have : 0 ≤ j ∧ j ≤ (y' : Int) := ⟨hb.1, by omega⟩
      simp only [Instr.sliceBound, asIntOf, Sem.run_bind, Sem.run_pure, Result.andThen_ok, if_pos this]
    · cases h
  · cases h

/-- Related options. -/
def ORel (f : FMap) (g : LMap) : Option Value → Option Value → Prop
  | none, none => True
  | some v, some v' => VRel f g v v'
  | _, _ => False

theorem ORel.map (hρ : ∀ x, VRel f g (ev fr x) (ρ x)) (x : Option Operand) : ORel f g (x.map (ev fr)) (x.map ρ) := by
  cases x with
  | none => trivial
  | some x => exact hρ x

theorem abound_le {y : Nat} {v : Value} {i : Nat} (h : abound y v = some i) : i ≤ y := by
  unfold abound at h
  split at h
  · split at h
    · simp only [Option.some.injEq] at h; omega
    · cases h
  · cases h

theorem bounds_le {len cap : Nat} {lo hi mx : Option Value} {l h m : Nat} (hb : abounds len cap lo hi mx = some (l, h, m)) : m ≤ cap := by
  unfold abounds at hb
  split at hb
  · cases hb
  · rename_i m0 hm
    have : m0 ≤ cap := by
      cases mx with
      | none => simp only [Option.some.injEq] at hm; omega
      | some v => exact abound_le hm
    split at hb
    · cases hb
    · split at hb
      · cases hb
      · split at hb
        · simp only [Option.some.injEq, Prod.mk.injEq] at hb
          omega
        · cases hb

theorem bounds_rel {len cap cap' : Nat} {lo hi mx lo' hi' mx' : Option Value} {l h m : Nat} (hb : abounds len cap lo hi mx = some (l, h, m)) (hc : cap ≤ cap') (h1 : ORel f g lo lo') (h2 : ORel f g hi hi') (h3 : ORel f g mx mx')
    (sl : Bool) (w : World) : (Instr.sliceBounds sl len cap' lo' hi' mx').run P w = .ok (l, h, if mx.isSome then m else cap') w ∧ h ≤ m ∧ l ≤ h ∧ (mx = none → m = cap) := by
  unfold abounds at hb
  split at hb
  · cases hb
  · rename_i m0 hm
    split at hb
    · cases hb
    · rename_i h0 hh
      split at hb
      · cases hb
      · rename_i l0 hl
        split at hb
        · rename_i hle
          simp only [Option.some.injEq, Prod.mk.injEq] at hb
          obtain ⟨rfl, rfl, rfl⟩ := hb
          have low : (lo' = none ∧ l0 = 0) ∨ (∃ v', lo' = some v' ∧ (∀ c : BoundsCode, (Instr.sliceBound v' h0 c).run P w = .ok l0 w) ∧ l0 ≤ h0) := by
            cases lo with
            | none => cases lo' with
              | some v' => exact h1.elim
              | none =>
                simp only [Option.some.injEq] at hl
                exact .inl ⟨rfl, hl.symm⟩
            | some v => cases lo' with
              | none => exact h1.elim
              | some v' =>
                simp only at hl
                exact .inr ⟨v', rfl, fun c => (bound_rel hl h1 (Nat.le_refl _) c w).1, (bound_rel (P := P) hl h1 (Nat.le_refl _) .sliceB w).2⟩
          have l2 : l0 ≤ h0 := by rcases low with ⟨_, h⟩ | ⟨_, _, _, h⟩ <;> omega
          cases mx with
          | none =>
            cases mx' with
            | some v' => exact h3.elim
            | none =>
              simp only [Option.some.injEq] at hm
              subst hm
              cases hi with
              | none =>
                cases hi' with
                | some v' => exact h2.elim
                | none =>
                  simp only [Option.some.injEq] at hh
                  subst hh
                  refine ⟨?_, hle, l2, fun _ => rfl⟩
                  rcases low with ⟨rfl, rfl⟩ | ⟨v', rfl, l1, _⟩
                  · rfl
                  · simp only [Instr.sliceBounds, Sem.run_bind, Sem.run_pure, Result.andThen_ok, l1]; rfl
              | some v =>
                cases hi' with
                | none => exact h2.elim
                | some v' =>
                  simp only at hh
                  refine ⟨?_, hle, l2, fun _ => rfl⟩
                  have hb2 := fun c => (bound_rel (P := P) hh h2 hc c w).1
                  rcases low with ⟨rfl, rfl⟩ | ⟨v', rfl, l1, _⟩
                  · simp only [Instr.sliceBounds, Sem.run_bind, Sem.run_pure, Result.andThen_ok, hb2]; rfl
                  · simp only [Instr.sliceBounds, Sem.run_bind, Sem.run_pure, Result.andThen_ok, hb2, l1]; rfl
          | some v =>
            cases mx' with
            | none => exact h3.elim
            | some v' =>
              simp only at hm
              cases hi with
              | none => simp at hh
              | some u =>
                cases hi' with
                | none => exact h2.elim
                | some u' =>
                  simp only at hh
                  refine ⟨?_, hle, l2, fun e => by cases e⟩
                  have hb2 := fun c => (bound_rel (P := P) hh h2 (Nat.le_refl _) c w).1
                  have hb3 := fun c => (bound_rel (P := P) hm h3 hc c w).1
                  rcases low with ⟨rfl, rfl⟩ | ⟨v', rfl, l1, _⟩
                  · simp only [Instr.sliceBounds, Sem.run_bind, Sem.run_pure, Result.andThen_ok, hb2, hb3]; rfl
                  · simp only [Instr.sliceBounds, Sem.run_bind, Sem.run_pure, Result.andThen_ok, hb2, hb3, l1]; rfl
        · cases hb

theorem slice_rel (h : Inj f g s w) {t : TypeId} {x x' v : Value} {lo hi mx lo' hi' mx' : Option Value} (ha : aslice P s t x lo hi mx = some v) (hx : VRel f g x x') (h1 : ORel f g lo lo') (h2 : ORel f g hi hi') (h3 : ORel f g mx mx') :
    ∃ v', VRel f g v v' ∧ (Instr.sliceAt t x' lo' hi' mx').run P w = .ok v' w := by
  have hadd : ∀ (b o m : Nat), (⟨b, o, none⟩ : Addr).add m = ⟨b, o + m, none⟩ := fun b o m => addr_add _ _ _
  unfold aslice at ha
  split at ha
  · rename_i n e size he
    obtain ⟨j, hu, hinf, rfl⟩ := arrElem_some he
    split at ha
    · rename_i b off
      split at ha
      · rename_i l hh m hb
        simp only [Option.some.injEq] at ha
        subst ha
        cases hx with
        | plain hp => simp [splain] at hp
        | @ptr _ _ p hp =>
          obtain ⟨hr, _, _, hm⟩ := bounds_rel (P := P) hb (Nat.le_refl _) h1 h2 h3 false w
          have hmm : (if mx.isSome then m else n) = m := by cases mx with | none => simp [hm rfl] | some v => simp
          rw [hmm] at hr
          refine ⟨.slice (some ⟨p.block, p.off + (if m = l then off else off + l * j.size), none⟩) (hh - l) (m - l), .sliceX hp, ?_⟩
          simp only [Instr.sliceAt, Sem.run_bind, run_underlying_some hu, Result.andThen_ok, Instr.sureAddr, Sem.run_pure, hr, run_sizeOf_some hinf]
          split
          · rfl
          · rw [hadd, Nat.add_assoc]
      · cases ha
    · cases ha
  · split at ha
    · rename_i e he
      obtain ⟨e, size, bytes⟩ := e
      obtain ⟨j, hu, hinf, rfl, rfl⟩ := sliceElem_some he
      split at ha
      · rename_i q hb
        obtain ⟨l, hh, m⟩ := q
        simp only [Option.some.injEq] at ha
        subst ha
        rw [splain_rel hx rfl]
        obtain ⟨hr, hle, hl, hm⟩ := bounds_rel (P := P) hb (Nat.le_refl _) h1 h2 h3 true w
        have hmm : (if mx.isSome then m else 0) = m := by cases mx with | none => simp [hm rfl] | some v => simp
        rw [hmm] at hr
        have hm0 : m = 0 := by
          cases mx with
          | none => exact hm rfl
          | some v =>
            unfold abounds at hb
            split at hb
            · cases hb
            · rename_i m0 hm0
              cases mx' with
              | none => exact h3.elim
              | some v' =>
                have := (bound_rel (P := P) (f := f) (g := g) hm0 h3 (Nat.le_refl _) .sliceB w).2
                split at hb
                · cases hb
                · split at hb
                  · cases hb
                  · split at hb
                    · simp only [Option.some.injEq, Prod.mk.injEq] at hb; omega
                    · cases hb
        have hh0 : hh = 0 := by omega
        have hl0 : l = 0 := by omega
        subst hm0 hh0 hl0
        refine ⟨_, .plain rfl, ?_⟩
        simp only [Instr.sliceAt, Instr.slice, Sem.run_bind, run_underlying_some hu, Result.andThen_ok, hr, run_sizeOf_some hinf, Sem.run_pure]
        rfl
      · cases ha
    · rename_i e size bytes b off sp len cap he
      obtain ⟨j, hu, hinf, rfl, rfl⟩ := sliceElem_some he
      split at ha
      · rename_i l hh m hb
        have fin : ∀ (a' : Addr) (cap' : Nat), cap ≤ cap' → (Instr.sliceAt t (.slice (some a') len cap') lo' hi' mx').run P w =
            .ok (.slice (some (if (if mx.isSome then m else cap') = l then a' else a'.add (l * j.size))) (hh - l) ((if mx.isSome then m else cap') - l)) w := fun a' cap' hc => by
          obtain ⟨hr, _, _, _⟩ := bounds_rel (P := P) hb hc h1 h2 h3 true w
          simp only [Instr.sliceAt, Instr.slice, Sem.run_bind, run_underlying_some hu, Result.andThen_ok, hr, run_sizeOf_some hinf, Sem.run_pure]
          generalize (if mx.isSome then m else cap') = M
          by_cases hM : M = l
          · simp only [if_pos hM]
          · simp only [if_neg hM]; rfl
        obtain ⟨_, hle, hl, hm⟩ := bounds_rel (P := P) hb (Nat.le_refl _) h1 h2 h3 true w
        split at ha
        · rename_i hsp
          subst hsp
          simp only [Option.some.injEq] at ha
          subst ha
          cases hx with
          | plain hp => simp [splain] at hp
          | @slice0 _ _ q =>
            have hmle := bounds_le hb
            have hl0 : l = 0 := by omega
            have hh0 : hh = 0 := by omega
            have hm0 : (if mx.isSome then m else 0) = 0 := by
              cases hmx : mx with
              | none => simp
              | some v =>
                simp only [Option.isSome_some, if_true]
                have := bounds_le hb
                omega
            refine ⟨.slice (some q) 0 0, .slice0, ?_⟩
            rw [fin q 0 (Nat.le_refl _), hm0, hl0, hh0]
            simp
        split at ha
        · rename_i hsp2 hsp
          subst hsp
          split at ha
          · rename_i hmx
            simp only [Option.some.injEq] at ha
            subst ha
            cases hx with
            | plain hp => simp [splain] at hp
            | @sliceE _ _ cap' p q hp hq =>
              have hmx' : mx = none := by simpa using hmx
              subst hmx'
              have := hm rfl
              subst this
              have hl0 : l = 0 := by omega
              have hh0 : hh = 0 := by omega
              subst hl0 hh0
              refine ⟨_, .sliceE hp hq, ?_⟩
              rw [fin q cap' (Nat.zero_le _)]
              obtain ⟨qb, qo, qs⟩ := q
              simp [Addr.add]
          · cases ha
        · rename_i hsp2 hsp1
          split at ha
          · rename_i hex
            simp only [Option.some.injEq] at ha
            subst ha
            have done : ∀ (p : Place) (cap' : Nat), f b = some p → cap ≤ cap' → (mx.isSome = false → cap' = cap) →
                ∃ v', VRel f g (.slice (some ⟨b, if m = l then off else off + l * j.size, some 0⟩) (hh - l) (m - l)) v' ∧ (Instr.sliceAt t (.slice (some ⟨p.block, p.off + off, none⟩) len cap') lo' hi' mx').run P w = .ok v' w := by
              intro p cap' hp hc hcap
              have hmm : (if mx.isSome then m else cap') = m := by
                cases hmx : mx with
                | none => simp [hcap (by simp [hmx]), hm hmx]
                | some v => simp
              refine ⟨_, .sliceX hp, ?_⟩
              rw [fin _ _ hc, hmm, hadd, Nat.add_assoc]
              split <;> rfl
            cases hx with
            | plain hp => simp [splain] at hp
            | @slice _ _ _ _ cap' p hp hc1 hc2 hc3 => exact done p cap' hp hc2 (fun e => by simp [e] at hex)
            | @sliceX _ _ _ _ p hp => exact done p cap hp (Nat.le_refl _) (fun _ => rfl)
            | sliceE => exact absurd rfl hsp1
            | slice0 => exact absurd rfl hsp2
          · rename_i hnx
            simp only [Bool.or_eq_true, not_or, Bool.not_eq_true, Option.isSome_eq_false_iff, Option.isNone_iff_eq_none] at hnx
            obtain ⟨hmx, hsp⟩ := hnx
            subst hmx hsp
            have := hm rfl
            subst this
            cases hx with
            | plain hp => simp [splain] at hp
            | @slice _ _ _ _ cap' p hp hc1 hc2 hc3 =>
              have hf := fin ⟨p.block, p.off + off, none⟩ cap' hc2
              simp only [Option.isSome_none, Bool.false_eq_true, if_false, hadd] at hf
              split at ha
              · rename_i k hk
                split at ha
                · rename_i hks
                  have hgs : p.grown = true → p.size = j.size := fun hg => by
                    unfold exactCap at hk
                    cases hk0 : s.get b with
                    | none => simp [hk0] at hk
                    | some kb =>
                      obtain ⟨kc, km⟩ := kb
                      by_cases hd : km = .dead
                      · subst hd; simp [hk0] at hk
                      · obtain ⟨_, _, _, _, _, h5, _⟩ := h.blk b p ⟨kc, km⟩ hp hk0 hd
                        have := (h5 hg).1
                        simp only at this
                        subst this
                        simp [hk0] at hk
                        omega
                  have hroom : l ≤ cap' → p.grown = true → p.off + (off + l * j.size) + (cap' - l) * p.size ≤ p.room := fun hlc hg => by
                    have e1 := hgs hg
                    have e2 := hc3 hg
                    rw [e1] at e2 ⊢
                    have : l * j.size + (cap' - l) * j.size = cap' * j.size := by rw [← Nat.add_mul, Nat.add_sub_cancel' hlc]
                    omega
                  have hgrown : p.grown = true := by
                    cases hg : p.grown with
                    | true => rfl
                    | false =>
                      exfalso
                      unfold exactCap at hk
                      cases hk0 : s.get b with
                      | none => simp [hk0] at hk
                      | some kb =>
                        obtain ⟨kc, km⟩ := kb
                        by_cases hd : km = .dead
                        · subst hd; simp [hk0] at hk
                        · obtain ⟨_, _, _, _, _, _, h6, _⟩ := h.blk b p ⟨kc, km⟩ hp hk0 hd
                          cases km with
                          | grown n => rw [h6 n rfl] at hg; cases hg
                          | dead => exact hd rfl
                          | ro => simp [hk0] at hk
                          | rw => simp [hk0] at hk
                  split at ha
                  · rename_i hml
                    simp only [Option.some.injEq] at ha
                    subst ha
                    subst hml
                    have hh0 : hh - m = 0 := by omega
                    rw [hh0] at hf
                    by_cases hc : cap' = m
                    · rw [if_pos hc] at hf
                      exact ⟨_, .sliceE hp (.inr (by omega)), hf⟩
                    · rw [if_neg hc] at hf
                      exact ⟨_, .sliceE hp (.inl ⟨by simp [Nat.add_assoc], hroom hc2 hgrown⟩), hf⟩
                  · rename_i hml
                    simp only [Option.some.injEq] at ha
                    subst ha
                    rw [if_neg (by omega), Nat.add_assoc] at hf
                    exact ⟨_, .slice hp (fun e => by rw [hc1 e]) (by omega) (hroom (by omega)), hf⟩
                · cases ha
              · rename_i hex
                simp only [Option.some.injEq] at ha
                subst ha
                have hg : p.grown = false := by
                  unfold exactCap at hex
                  cases hpg : p.grown with
                  | false => rfl
                  | true =>
                    exfalso
                    cases hk : s.get b with
                    | none => simp [hk] at hex
                    | some k =>
                      obtain ⟨kc, km⟩ := k
                      by_cases hd : km = .dead
                      · subst hd; simp [hk] at hex
                      · obtain ⟨_, _, _, _, _, h5, _⟩ := h.blk b p ⟨kc, km⟩ hp hk hd
                        have := (h5 hpg).1
                        simp only at this
                        subst this
                        simp [hk] at hex
                have := hc1 hg
                subst this
                refine ⟨_, .slice hp (fun _ => rfl) (Nat.le_refl _) (fun e => by rw [hg] at e; cases e), ?_⟩
                rw [hf, Nat.add_assoc]
                split <;> rfl
              · cases ha
      · cases ha
    · cases ha

theorem read_run (h : Inj f g s w) (hρ : ∀ x, VRel f g (ev fr x) (ρ x)) {o : Oper} {v : Value} (ha : aread P o.op fr s = some v) : ∃ v', VRel f g v v' ∧ (execOp ρ o).run P w = .ok (.value v') w := by
  unfold aread at ha
  split at ha
  · rename_i t x ho
    obtain ⟨v', h1, h2⟩ := load_rel h ha (hρ x)
    exact ⟨v', h1, by simp [execOp, ho, h2]⟩
  · rename_i t x lo hi mx ho
    obtain ⟨v', h1, h2⟩ := slice_rel h ha (hρ x) (ORel.map hρ lo) (ORel.map hρ hi) (ORel.map hρ mx)
    exact ⟨v', h1, by simp [execOp, ho, h2]⟩
  · cases ha

end
end Go.Abs
