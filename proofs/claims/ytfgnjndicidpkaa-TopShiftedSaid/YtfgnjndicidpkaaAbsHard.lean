/- The operations that make a block, and those that write. -/
import Derived.Test.YtfgnjndicidpkaaAbsQuiet
namespace Go.Abs

section
variable {P : Program} {f : FMap} {g : LMap} {s s' : St} {w : World} {fr : Fr} {ρ : Operand → Value}

theorem length_copies : ∀ (n : Nat) (l : List Value), (copies n l).length = n * l.length
  | 0, _ => by simp [copies]
  | n + 1, l => by simp [copies, length_copies n l, Nat.add_mul, Nat.add_comm]

theorem get_copies (l : List Value) (hl : 0 < l.length) : ∀ (n i : Nat), i < n * l.length → (copies n l)[i]? = l[i % l.length]?
  | 0, i, h => by simp at h
  | n + 1, i, h => by
    simp only [copies]
    by_cases hi : i < l.length
    · rw [List.getElem?_append_left hi, Nat.mod_eq_of_lt hi]
    · have hge : l.length ≤ i := Nat.le_of_not_lt hi
      rw [List.getElem?_append_right hge, get_copies l hl n (i - l.length) (by rw [Nat.add_mul] at h; omega), Nat.mod_eq_sub_mod hge]

theorem range_copies (z : Array Value) (hz : 0 < z.size) (n : Nat) : ((Array.range (n * z.size)).map fun i => z[i % z.size]!) = (copies n z.toList).toArray := by
  apply Array.ext
  · simp [length_copies]
  · intro i h1 h2
    simp only [Array.size_map, Array.size_range] at h1
    have hm : i % z.size < z.size := Nat.mod_lt _ hz
    have h3 := get_copies z.toList (by simpa using hz) n i (by simpa using h1)
    simp only [Array.length_toList, Array.getElem?_toList, Array.getElem?_eq_getElem hm] at h3
    have h4 : i < (copies n z.toList).length := by simpa [length_copies] using h1
    rw [List.getElem?_eq_getElem h4, Option.some.injEq] at h3
    simp [h3, hm]

theorem run_newVar (t : TypeId) (v : Value) (w : World) : (newVar t v).run P w = .ok ⟨w.heap.size, 0, none⟩ (w.alloc (.cells v.cells t)) := by
  simp [newVar, newRow]

theorem run_newRow (t : TypeId) (cs : Array Value) (w : World) : (newRow t cs).run P w = .ok ⟨w.heap.size, 0, none⟩ (w.alloc (.cells cs t)) := by
  simp [newRow]

theorem ptr_zero (F : FMap) (G : LMap) {b : Nat} {p : Place} (hp : F b = some p) (ho : p.off = 0) : VRel F G (.pointer (some ⟨b, 0, none⟩)) (.pointer (some ⟨p.block, 0, none⟩)) := by
  have := VRel.ptr (f := F) (g := G) (b := b) (off := 0) hp
  rwa [ho] at this

theorem slice_zero (F : FMap) (G : LMap) {b n c : Nat} {p : Place} (hp : F b = some p) (ho : p.off = 0) (hg : p.grown = false) : VRel F G (.slice (some ⟨b, 0, none⟩) n c) (.slice (some ⟨p.block, 0, none⟩) n c) := by
  have := VRel.slice (f := F) (g := G) (b := b) (off := 0) (len := n) (cap := c) (cap' := c) hp (fun _ => rfl) (Nat.le_refl _) (fun e => by rw [hg] at e; cases e)
  rwa [ho] at this

theorem fresh_run (hρ : ∀ x, VRel f g (ev fr x) (ρ x)) {o : Oper} {cs : List Value} {mk : Nat → Value} (h : afresh P o.op fr = some (cs, mk)) :
    ∃ (cs' : List Value) (e : TypeId) (mk' : Nat → Value), VsRel f g cs cs' ∧ (∀ w, (execOp ρ o).run P w = .ok (.value (mk' w.heap.size)) (w.alloc (.cells cs'.toArray e))) ∧
      ∀ (F : FMap) (G : LMap) b p, F b = some p → p.off = 0 → p.grown = false → VRel F G (mk b) (mk' p.block) := by
  unfold afresh at h
  split at h
  · rename_i t ho
    split at h
    · rename_i z hz
      simp only [Option.some.injEq, Prod.mk.injEq] at h
      obtain ⟨rfl, rfl⟩ := h
      refine ⟨z.cells.toList, t, fun b => .pointer (some ⟨b, 0, none⟩), zero_cells hz, fun w => ?_, fun F G b p hp ho _ => ptr_zero F G hp ho⟩
      simp [execOp, ho, Instr.alloc, run_zeroValue_some hz, run_newVar]
    · cases h
  · rename_i t x ho
    split at h
    · rename_i hv
      simp only [Option.some.injEq, Prod.mk.injEq] at h
      obtain ⟨rfl, rfl⟩ := h
      refine ⟨(ρ x).cells.toList, t, fun b => .pointer (some ⟨b, 0, none⟩), (hρ x).cells hv, fun w => ?_, fun F G b p hp ho _ => ptr_zero F G hp ho⟩
      simp [execOp, ho, Instr.box, run_newVar]
    · cases h
  · rename_i t len parts ho
    unfold abuildSlice at h
    split at h
    · rename_i e size bytes he
      obtain ⟨j, hu, hinf, rfl, rfl⟩ := sliceElem_some he
      split at h
      · rename_i z hz
        split at h
        · rename_i hc
          obtain ⟨hc1, hc2, hc3⟩ := hc
          split at h
          · rename_i cells hf
            simp only [Option.some.injEq, Prod.mk.injEq] at h
            obtain ⟨rfl, rfl⟩ := h
            obtain ⟨cs', h1, h2⟩ := fill_rel _ (fun i => some (i * j.size, j.size)) (fun _ _ h => h) _ _ _ _ (copies len z.cells.toList).toArray hf (by simpa using (zero_cells hz).copies len) (parts_rel hρ parts.toList)
            refine ⟨cs'.toList, e, fun b => .slice (some ⟨b, 0, none⟩) len len, h2, fun w => ?_, fun F G b p hp ho hg => slice_zero F G hp ho hg⟩
            have hmap : (parts.map fun (i, x) => (i, ρ x)).toList = (parts.toList.map fun (i, x) => (i, ρ x)) := by simp
            have hbig : ¬ len * j.size > 2 ^ 24 := by omega
            have hrow : (Array.range (len * j.size)).map (fun x => z.cells[x % z.cells.size]!) = (copies len z.cells.toList).toArray := by
              rw [← hc2]; exact range_copies z.cells (by omega) len
            simp only [execOp, ho, Instr.buildSlice, Sem.run_bind, run_underlying_some hu, Result.andThen_ok, run_sizeOf_some hinf, Sem.run_ite, if_neg hbig, Sem.run_pure, run_zeroValue_some hz]
            by_cases h0 : len * j.size = 0
            · have hl0 : len = 0 := by
                rcases Nat.mul_eq_zero.1 h0 with h | h
                · exact h
                · omega
              subst hl0
              simp only [h0, if_true]
              simp only [copies] at h1
              have e0 : ((Array.range 0).map fun x => (#[] : Array Value)[x % (#[] : Array Value).size]!) = #[] := by simp
              rw [e0, hmap, h1]
              simp [run_newRow]
            · simp only [h0, if_false]
              rw [hrow, hmap, h1]
              simp [run_newRow]
          · cases h
        · cases h
      · cases h
    · cases h
  · rename_i t l c ho
    unfold amakeSlice at h
    split at h
    · rename_i kl l0 kc c0 hl hc
      have el : ρ l = .int kl l0 := splain_rel (hl ▸ hρ l) rfl
      have ec : ρ c = .int kc c0 := splain_rel (hc ▸ hρ c) rfl
      split at h
      · rename_i e size bytes he
        obtain ⟨j, hu, hinf, rfl, rfl⟩ := sliceElem_some he
        split at h
        · rename_i z hz
          split at h
          · rename_i hcond
            obtain ⟨c1, c2, c3, c4, c5, c6⟩ := hcond
            simp only [Option.some.injEq, Prod.mk.injEq] at h
            obtain ⟨rfl, rfl⟩ := h
            refine ⟨copies c0.toNat z.cells.toList, e, fun b => .slice (some ⟨b, 0, none⟩) l0.toNat c0.toNat, (zero_cells hz).copies _, fun w => ?_, fun F G b p hp ho hg => slice_zero F G hp ho hg⟩
            have w1 : IntKind.i64.wrap l0 = l0 := by unfold IntKind.wrap; simp [IntKind.bits, IntKind.signed]; omega
            have w2 : IntKind.i64.wrap c0 = c0 := by unfold IntKind.wrap; simp [IntKind.bits, IntKind.signed]; omega
            have hrow : (Array.range (c0.toNat * j.size)).map (fun x => z.cells[x % z.cells.size]!) = (copies c0.toNat z.cells.toList).toArray := by
              rw [← c5]; exact range_copies z.cells (by omega) c0.toNat
            have hb : (j.bytes : Int) * c0 ≤ 2 ^ 48 := by
              have : (j.bytes : Int) * c0 ≤ 2 ^ 10 * 2 ^ 20 := Int.mul_le_mul (by omega) c3 (by omega) (by omega)
              omega
            have t1 : ¬ ((c0 < 0 || decide ((j.bytes : Int) * c0 > 2 ^ 48)) || decide (l0 < 0) || decide (l0 > c0)) = true := by
              simp; omega
            simp only [execOp, ho, Instr.makeSlice, Sem.run_bind, run_underlying_some hu, Result.andThen_ok, el, ec, asInt, asIntOf, Sem.run_pure, run_info_some hinf, w1, w2]
            simp only [if_neg t1, Sem.run_bind, run_askRoom, Result.andThen_ok, run_sizeOf_some hinf, Sem.run_ite, Sem.run_pure, run_zeroValue_some hz]
            by_cases h0 : c0.toNat * j.size = 0
            · have hl0 : c0.toNat = 0 := by
                rcases Nat.mul_eq_zero.1 h0 with h | h
                · exact h
                · omega
              have e0 : ((Array.range 0).map fun _ => (default : Value)) = #[] := by simp
              simp [hl0, copies, run_newRow, e0]
            · simp only [h0, if_false]
              rw [hrow]
              simp [run_newRow]
          · cases h
        · cases h
      · cases h
    · cases h
  · cases h


/-! ### Writing -/

theorem all_scalar_rel {l l' : List Value} (h : VsRel f g l l') (hs : l.all scalar = true) : ∀ v ∈ l', v.oneCell' = true := by
  induction l generalizing l' with
  | nil => rw [h.of_nil]; intro v hv; cases hv
  | cons x l ih =>
    obtain ⟨x', m, rfl, hx, hm⟩ := h.of_cons
    simp only [List.all_cons, Bool.and_eq_true] at hs
    intro v hv
    rcases List.mem_cons.1 hv with rfl | hv
    · exact hx.scalar hs.1
    · exact ih hm hs.2 v hv

/-- Writing related cells on both sides. -/
theorem write_run (h : Inj f g s w) {b off : Nat} {p : Place} {vs vs' : List Value} (hf : f b = some p) (hs : s.setCells b off vs = some s') (hvs : VsRel f g vs vs') :
    ∃ w', (storeCells ⟨p.block, p.off + off, none⟩ vs').run P w = .ok () w' ∧ Inj f g s' w' ∧ Keep f g s w f g s' w' := by
  have hs0 := hs
  unfold St.setCells at hs
  split at hs
  · rename_i l m hk
    split at hs
    · rename_i hc
      simp only [Bool.and_eq_true, decide_eq_true_eq] at hc
      obtain ⟨⟨hm, hlen⟩, hsc⟩ := hc
      have hmd : m ≠ .dead := fun e => by rw [e] at hm; cases hm
      obtain ⟨cs, e, fz, h1, h2, h3, _, h4⟩ := h.blk b p ⟨l, m⟩ hf hk hmd
      have hfz := h2 hm
      subst hfz
      by_cases h0 : vs = []
      · subst h0
        rw [hvs.of_nil]
        have : s' = s.set b ⟨l, m⟩ := by simpa [splice] using hs.symm
        obtain ⟨a1, a2⟩ := Inj.write (w' := w) h hf hs0 (vs' := []) VsRel.nil h1 (by
          simp only [splice, Array.toArray_toList]
          obtain ⟨hlt, heq⟩ := Array.getElem?_eq_some_iff.1 h1
          apply Array.ext (by simp)
          intro j h5 h6
          by_cases hj : p.block = j
          · subst hj; simp [heq]
          · rw [Array.getElem_setIfInBounds_ne (by simpa using h5) hj]) (Calm.refl w)
        exact ⟨w, rfl, a1, a2⟩
      · have hsz : p.off + off + 0 + vs'.length ≤ cs.size := by
          have hpos : 0 < vs.length := List.length_pos_iff.2 h0
          obtain ⟨v, h5, _⟩ := h4 (off + vs.length - 1) (by simp only; omega)
          have := (Array.getElem?_eq_some_iff.1 h5).1
          rw [← hvs.1]; omega
        obtain ⟨w', h5, h6, h7⟩ := run_storeCells P p.block (p.off + off) e vs' 0 w cs h1 (all_scalar_rel hvs hsc) hsz
        obtain ⟨a1, a2⟩ := Inj.write (w' := w') h hf hs0 hvs h1 (by rw [h6]; rfl) h7
        exact ⟨w', h5, a1, a2⟩
    · cases hs
  · cases hs

theorem isVal_of_cells {x : Value} (h : x.cells.toList.all scalar = true) : isVal x = true := by
  cases x <;> simp_all [isVal, Value.cells, scalar]

theorem setCells_scalar {b off : Nat} {vs : List Value} (hs : s.setCells b off vs = some s') : vs.all scalar = true := by
  unfold St.setCells at hs
  split at hs
  · split at hs
    · rename_i hc
      simp only [Bool.and_eq_true] at hc
      exact hc.2
    · cases hs
  · cases hs

theorem store_run (h : Inj f g s w) {t : TypeId} {x x' a a' : Value} (hs : astore P s t x a = some s') (hx : VRel f g x x') (ha : VRel f g a a') :
    ∃ w', (Instr.storeAt t a' x').run P w = .ok () w' ∧ Inj f g s' w' ∧ Keep f g s w f g s' w' := by
  unfold astore at hs
  split at hs
  · rename_i b off
    cases ha with
    | plain hp => simp [splain] at hp
    | @ptr _ _ p hp =>
      split at hs
      · rename_i bb n hsh
        obtain ⟨d, i, hu, hi, _, rfl⟩ := shapeOf_some hsh
        split at hs
        · rename_i hsz
          have hcells := hx.cells (isVal_of_cells (setCells_scalar hs))
          obtain ⟨w', h1, h2, h3⟩ := write_run (P := P) h hp hs hcells
          refine ⟨w', ?_, h2, h3⟩
          have hsz' : x'.cells.size = i.size := by have := hcells.1; simp at this; omega
          simp only [Instr.storeAt, Instr.sureAddr, storeVar, Sem.run_bind, Sem.run_pure, Result.andThen_ok, run_sizeOf_some hi, Sem.run_ite, hsz', ne_eq, not_true, if_false, h1]
        · cases hs
      · cases hs
  · cases hs

theorem VRel.slice_inv {b off n c : Nat} {sp : Option Nat} {v : Value} (h : VRel f g (.slice (some ⟨b, off, sp⟩) n c) v) :
    (∃ p c', f b = some p ∧ (sp = none ∨ sp = some 0) ∧ v = .slice (some ⟨p.block, p.off + off, none⟩) n c' ∧ c ≤ c' ∧ (sp.isSome = true ∨ p.grown = false → c' = c) ∧ (sp = none → p.grown = true → p.off + off + c' * p.size ≤ p.room)) ∨
    (sp = some 1 ∧ n = 0 ∧ c = 0 ∧ ∃ p q c', f b = some p ∧ v = .slice (some q) 0 c' ∧ ((q = ⟨p.block, p.off + off, none⟩ ∧ p.off + off + c' * p.size ≤ p.room) ∨ c' = 0)) ∨
    (sp = some 2 ∧ n = 0 ∧ c = 0 ∧ ∃ q, v = .slice (some q) 0 0) := by
  cases h with
  | plain hp => simp [splain] at hp
  | slice hp h1 h2 h3 => exact .inl ⟨_, _, hp, .inl rfl, rfl, h2, (fun h => by rcases h with h | h; cases h; exact h1 h), fun _ => h3⟩
  | sliceX hp => exact .inl ⟨_, _, hp, .inr rfl, rfl, Nat.le_refl _, (fun _ => rfl), (fun e => by cases e)⟩
  | sliceE hp hq => exact .inr (.inl ⟨rfl, rfl, rfl, _, _, _, hp, rfl, hq⟩)
  | slice0 => exact .inr (.inr ⟨rfl, rfl, rfl, _, rfl⟩)

theorem clear_run (h : Inj f g s w) {t : TypeId} {x x' v : Value} (hs : aclear P s t x = some (v, s')) (hx : VRel f g x x') :
    ∃ w', (Builtin.clear_ #[t] 0 #[x']).run P w = .ok (.tuple #[]) w' ∧ v = undef ∧ Inj f g s' w' ∧ Keep f g s w f g s' w' := by
  unfold aclear at hs
  split at hs
  · rename_i q _ _ he
    obtain ⟨e, size, bytes⟩ := q
    obtain ⟨j, hu, hinf, rfl, rfl⟩ := sliceElem_some he
    simp only [Option.some.injEq, Prod.mk.injEq] at hs
    obtain ⟨rfl, rfl⟩ := hs
    rw [splain_rel hx rfl]
    exact ⟨w, by simp [Builtin.clear_, run_underlying_some hu], rfl, h, h.keep⟩
  · rename_i e size bytes b off sp n cap he
    obtain ⟨j, hu, hinf, rfl, rfl⟩ := sliceElem_some he
    split at hs
    · rename_i z hz
      split at hs
      · rename_i hc
        have zc : Builtin.zeroCells z.cells n = (copies n z.cells.toList).toArray := range_copies z.cells (by omega) n
        split at hs
        · rename_i hn
          subst hn
          simp only [Option.some.injEq, Prod.mk.injEq] at hs
          obtain ⟨rfl, rfl⟩ := hs
          have hx' : ∃ q c', x' = .slice (some q) 0 c' := by
            rcases hx.slice_inv with ⟨p, c', _, _, e, _⟩ | ⟨_, _, _, p, q, c', _, e, _⟩ | ⟨_, _, _, q, e⟩
            · exact ⟨_, _, e⟩
            · exact ⟨_, _, e⟩
            · exact ⟨_, _, e⟩
          obtain ⟨q, c', rfl⟩ := hx'
          exact ⟨w, by simp [Builtin.clear_, run_underlying_some hu], rfl, h, h.keep⟩
        · rename_i hn
          simp only [Option.map_eq_some_iff, Prod.mk.injEq] at hs
          obtain ⟨s1, hs1, rfl, rfl⟩ := hs
          rcases hx.slice_inv with ⟨p, c', hp, _, rfl, _⟩ | ⟨_, h0, _⟩ | ⟨_, h0, _⟩
          · obtain ⟨w', h1, h2, h3⟩ := write_run (P := P) h hp hs1 ((zero_cells hz).copies n)
            refine ⟨w', ?_, rfl, h2, h3⟩
            obtain ⟨m, rfl⟩ : ∃ m, n = m + 1 := ⟨n - 1, by omega⟩
            simp only [Builtin.clear_, List.getElem?_toArray, List.getElem?_cons_zero, Sem.run_bind, run_underlying_some hu, Result.andThen_ok, run_zeroValue_some hz, zc, h1, Sem.run_pure]
          · exact absurd h0 hn
          · exact absurd h0 hn
      · cases hs
    · cases hs
  · cases hs

theorem lenOf_slice (a : Option Addr) (n c : Nat) (w : World) : (Builtin.lenOf (.slice a n c)).run P w = .ok n w := rfl

/-- What a slice is on the machine's side, whatever its form. -/
theorem VRel.slice_len {a : Option Addr} {n c : Nat} {v : Value} (h : VRel f g (.slice a n c) v) : ∃ a' c', v = .slice a' n c' ∧ (a = none → a' = none) ∧ (a' = none → a = none) := by
  cases a with
  | none => exact ⟨none, c, splain_rel h rfl, fun _ => rfl, fun _ => rfl⟩
  | some a =>
    obtain ⟨b, off, sp⟩ := a
    rcases h.slice_inv with ⟨p, c', _, _, e, _⟩ | ⟨_, h0, _, p, q, c', _, e, _⟩ | ⟨_, h0, _, q, e⟩
    · exact ⟨_, _, e, (fun e => by cases e), (fun e => by cases e)⟩
    · subst h0; exact ⟨_, _, e, (fun e => by cases e), (fun e => by cases e)⟩
    · subst h0; exact ⟨_, _, e, (fun e => by cases e), (fun e => by cases e)⟩

theorem firstCells_zero (size : Nat) (a : Option Addr) (n c : Nat) (w : World) : (Builtin.firstCells size 0 (.slice a n c)).run P w = .ok #[] w := by
  cases a <;> simp [Builtin.firstCells, loadCells, loadCellsFrom]

theorem copy_run (h : Inj f g s w) {t ty ty2 : TypeId} {x x' y y' v : Value} (hs : acopy P s t x y = some (v, s')) (hx : VRel f g x x') (hy : VRel f g y y') :
    ∃ w', (Builtin.copy_ #[t, ty] ty2 #[x', y']).run P w = .ok v w' ∧ splain v = true ∧ Inj f g s' w' ∧ Keep f g s w f g s' w' := by
  unfold acopy at hs
  split at hs
  · rename_i e size bytes a dl dc a' sl sc he
    obtain ⟨j, hu, hinf, rfl, rfl⟩ := sliceElem_some he
    have hmin : ∀ n, Nat.min sl n = min sl n := fun _ => rfl
    split at hs
    · rename_i h0
      simp only [Option.some.injEq, Prod.mk.injEq] at hs
      obtain ⟨rfl, rfl⟩ := hs
      obtain ⟨x1, x2, rfl, _⟩ := hx.slice_len
      obtain ⟨y1, y2, rfl, _⟩ := hy.slice_len
      refine ⟨w, ?_, rfl, h, h.keep⟩
      simp only [Builtin.copy_, List.getElem?_toArray, List.getElem?_cons_zero, List.getElem?_cons_succ, Sem.run_bind, run_underlying_some hu, Result.andThen_ok, lenOf_slice, run_sizeOf_some hinf, hmin, h0, firstCells_zero]
      cases x1 <;> simp [storeCells]
    · rename_i h0
      split at hs
      · rename_i b off sp b' off' sp'
        split at hs
        · rename_i l hl
          simp only [Option.map_eq_some_iff, Prod.mk.injEq] at hs
          obtain ⟨s1, hs1, rfl, rfl⟩ := hs
          rcases hx.slice_inv with ⟨p, c', hp, _, rfl, _⟩ | ⟨_, e0, _⟩ | ⟨_, e0, _⟩
          · rcases hy.slice_inv with ⟨q, d', hq, _, rfl, _⟩ | ⟨_, e0, _⟩ | ⟨_, e0, _⟩
            · obtain ⟨l', h1, h2⟩ := run_loadCells_rel (P := P) h hq hl
              obtain ⟨w', h3, h4, h5⟩ := write_run (P := P) h hp hs1 h1
              refine ⟨w', ?_, rfl, h4, h5⟩
              simp only [Builtin.copy_, List.getElem?_toArray, List.getElem?_cons_zero, List.getElem?_cons_succ, Sem.run_bind, run_underlying_some hu, Result.andThen_ok, lenOf_slice, run_sizeOf_some hinf, hmin, Builtin.firstCells, h2 w rfl, h3, Sem.run_pure]
            · exact absurd (by omega) h0
            · exact absurd (by omega) h0
          · exact absurd (by omega) h0
          · exact absurd (by omega) h0
        · cases hs
      · cases hs
  · cases hs

/-! ### append -/

theorem cells_alive {b off n : Nat} {l : List Value} (hc : s.cells b off n = some l) : ∃ k, s.get b = some k ∧ k.mode ≠ .dead ∧ l.length = n := by
  unfold St.cells at hc
  split at hc
  · rename_i cs m hk
    split at hc
    · cases hc
    · rename_i hm
      split at hc
      · simp only [Option.some.injEq] at hc
        subst hc
        exact ⟨_, hk, hm, by simp; omega⟩
      · cases hc
  · cases hc

theorem source_rel (h : Inj f g s w) {e : TypeId} {size n : Nat} {zeros : Bool} {y y' : Value} {l : List Value} (hs : asource P s e size zeros y = some (l, n)) (hy : VRel f g y y') :
    (zeros = false → (∃ a c, y' = .slice a n c) ∧ ∃ l', VsRel f g l l' ∧ ∀ w', w'.heap = w.heap → (Builtin.firstCells size n y').run P w' = .ok l'.toArray w') ∧
    (zeros = true → y' = .int .i64 n ∧ n ≤ 2 ^ 20 ∧ ∃ z, zeroOf P e = some z ∧ l = copies n z.cells.toList) := by
  unfold asource at hs
  split at hs
  · rename_i hz
    refine ⟨(fun e => by rw [hz] at e; cases e), fun _ => ?_⟩
    split at hs
    · rename_i m z hz
      split at hs
      · rename_i hm
        simp only [Option.some.injEq, Prod.mk.injEq] at hs
        obtain ⟨rfl, rfl⟩ := hs
        refine ⟨?_, by omega, z, hz, rfl⟩
        rw [splain_rel hy rfl, Int.toNat_of_nonneg hm.1]
      · cases hs
    · cases hs
  · rename_i hz
    refine ⟨fun _ => ?_, fun e => absurd e hz⟩
    split at hs
    · simp only [Option.some.injEq, Prod.mk.injEq] at hs
      obtain ⟨rfl, rfl⟩ := hs
      rw [splain_rel hy rfl]
      exact ⟨⟨_, _, rfl⟩, [], VsRel.nil, fun w' _ => firstCells_zero _ _ _ _ w'⟩
    · rename_i b off sp m c
      split at hs
      · rename_i hm
        simp only [Option.some.injEq, Prod.mk.injEq] at hs
        obtain ⟨rfl, rfl⟩ := hs
        obtain ⟨a', c', rfl, _⟩ := hy.slice_len
        exact ⟨⟨_, _, by rw [hm]⟩, [], VsRel.nil, fun w' _ => firstCells_zero _ _ _ _ w'⟩
      · rename_i hm
        simp only [Option.map_eq_some_iff, Prod.mk.injEq] at hs
        obtain ⟨l0, hl, rfl, rfl⟩ := hs
        rcases hy.slice_inv with ⟨p, c', hp, _, rfl, _⟩ | ⟨_, e0, _⟩ | ⟨_, e0, _⟩
        · obtain ⟨l', h1, h2⟩ := run_loadCells_rel (P := P) h hp hl
          exact ⟨⟨_, _, rfl⟩, l', h1, h2⟩
        · exact absurd e0 hm
        · exact absurd e0 hm
    · cases hs

theorem nextcap_le (need old : Nat) (h : ¬ need ≤ old) : Builtin.nextslicecap need old ≤ 2 * need + 200 := by
  have g : ∀ r c, c < need → Builtin.growBy need r c ≤ 2 * need + 200 := by
    intro r
    induction r with
    | zero => intro c hc; simp [Builtin.growBy]; omega
    | succ r ih =>
      intro c hc
      simp only [Builtin.growBy]
      rw [if_neg (by omega)]
      by_cases h2 : c + (c + 768) / 4 < need
      · exact ih _ h2
      · cases r with
        | zero => simp [Builtin.growBy]; omega
        | succ r => simp only [Builtin.growBy]; rw [if_pos (by omega)]; omega
  unfold Builtin.nextslicecap
  split
  · omega
  · split
    · omega
    · exact g 4 old (by omega)


/-- What append is given. -/
structure AppArgs (P : Program) (w : World) (t xt e : TypeId) (j : TypeInfo) (z : Value) (n : Nat) (y : Value) (new : Array Value) : Prop where
  hu : P.underlying t = some (.slice e)
  hinf : P.info? e = some j
  hz : zeroOf P e = some z
  hb : j.bytes ≤ 2 ^ 10
  hn : n ≤ 2 ^ 20
  hx : (∃ d, P.underlying xt = some d ∧ isIntD d = false ∧ (∃ a c, y = .slice a n c) ∧ ∀ w', w'.heap = w.heap → (Builtin.firstCells j.size n y).run P w' = .ok new w') ∨
    (∃ d, P.underlying xt = some d ∧ isIntD d = true ∧ y = .int .i64 n ∧ (n * j.size = 0 → new = #[]) ∧ (n * j.size ≠ 0 → new = Builtin.zeroCells z.cells n))

theorem append_inplace {t xt ty e : TypeId} {j : TypeInfo} {z : Value} {n : Nat} {y : Value} {new : Array Value} (h : AppArgs P w t xt e j z n y new) {base : Option Addr} {len cap : Nat} (hle : len + n ≤ cap) :
    (Builtin.append_ #[t, xt] ty #[.slice base len cap, y]).run P w = (match base with
      | some a => ((storeCells (a.add (len * j.size)) new.toList).run P w).andThen fun _ w' => .ok (.slice (some a) (len + n) cap) w'
      | none => .ok (.slice none (len + n) cap) w) := by
  obtain ⟨hu, hinf, hz, hb, hn, hx⟩ := h
  rcases hx with ⟨d, hxt, hd, ⟨a, c, rfl⟩, hnew⟩ | ⟨d, hxt, hd, rfl, hnew1, hnew2⟩
  · cases d <;> first | (simp [isIntD] at hd; done) | skip
    all_goals
      simp only [Builtin.append_, List.getElem?_toArray, List.getElem?_cons_zero, List.getElem?_cons_succ, Sem.run_bind, run_underlying_some hu, run_underlying_some hxt, Result.andThen_ok, run_sizeOf_some hinf, Sem.run_pure, Bool.false_eq_true, if_false, lenOf_slice, if_pos hle, Bool.not_false, if_true, hnew w rfl]
      cases base <;> first | rfl | simp only [Sem.run_bind]; rfl
  · have hw : IntKind.i64.wrap (n : Int) = n := by unfold IntKind.wrap; simp [IntKind.bits, IntKind.signed]; omega
    have h1 : ¬ ((n : Int) < 0) := by omega
    have h2 : ¬ ((n : Int) * (j.bytes : Int) > 2 ^ 48) := by
      have : (n : Int) * (j.bytes : Int) ≤ 2 ^ 20 * 2 ^ 10 := Int.mul_le_mul (by omega) (by omega) (by omega) (by omega)
      omega
    cases d <;> first | (simp [isIntD] at hd; done) | skip
    simp only [Builtin.append_, List.getElem?_toArray, List.getElem?_cons_zero, List.getElem?_cons_succ, Sem.run_bind, run_underlying_some hu, run_underlying_some hxt, Result.andThen_ok, run_sizeOf_some hinf, Sem.run_pure, if_true, asInt, asIntOf, hw, if_neg h1, if_neg h2, run_info_some hinf, Int.toNat_natCast, if_pos hle, Bool.not_true, Bool.false_eq_true, if_false]
    by_cases h0 : n * j.size = 0
    · simp only [h0, if_true, Sem.run_pure, Result.andThen_ok, hnew1 h0]
      cases base <;> first | rfl | simp only [Sem.run_bind]; rfl
    · simp only [h0, if_false, Sem.run_bind, Sem.run_pure, Result.andThen_ok, hnew2 h0, run_zeroValue_some hz]
      cases base <;> first | rfl | simp only [Sem.run_bind]; rfl

theorem append_grow {t xt ty e : TypeId} {j : TypeInfo} {z : Value} {n : Nat} {y : Value} {new old : Array Value} (h : AppArgs P w t xt e j z n y new) {base : Option Addr} {len cap : Nat} (hle : ¬ len + n ≤ cap) (hlen : len + n ≤ 2 ^ 20) (hb0 : 0 < j.bytes)
    (hold : ∀ w', w'.heap = w.heap → (Builtin.firstCells j.size len (.slice base len cap)).run P w' = .ok old w') :
    ∃ newCap, len + n ≤ newCap ∧ (Builtin.append_ #[t, xt] ty #[.slice base len cap, y]).run P w =
      .ok (.slice (some ⟨w.heap.size, 0, none⟩) (len + n) newCap) (World.alloc { w with drawn := w.drawn + 1 } (.cells (old ++ new ++ Builtin.zeroCells z.cells (newCap - (len + n))) e)) := by
  obtain ⟨hu, hinf, hz, hb, hn, hx⟩ := h
  have hcap : ¬ (Builtin.nextslicecap (len + n) cap * j.bytes > 2 ^ 48) := by
    have h1 := nextcap_le (len + n) cap hle
    have h2 : Builtin.nextslicecap (len + n) cap * j.bytes ≤ (2 * 2 ^ 20 + 200) * 2 ^ 10 := Nat.mul_le_mul (by omega) hb
    omega
  refine ⟨Question.cut (.appendCap (len + n) cap e) (w.tape w.drawn (.appendCap (len + n) cap e)), by simp [Question.cut], ?_⟩
  have hbig : ∀ p : Prop, ¬ (((len + n : Nat) : Int) > IntKind.i64.max ∧ p) := fun p hp => by
    have h1 := hp.1
    have : IntKind.i64.max = 9223372036854775807 := by decide
    rw [this] at h1; omega
  have hforced : (Question.appendCap (len + n) cap e).forced = false := rfl
  rcases hx with ⟨d, hxt, hd, ⟨a, c, rfl⟩, hnew⟩ | ⟨d, hxt, hd, rfl, hnew1, hnew2⟩
  · cases d <;> first | (simp [isIntD] at hd; done) | skip
    all_goals
      simp only [Builtin.append_, List.getElem?_toArray, List.getElem?_cons_zero, List.getElem?_cons_succ, Sem.run_bind, run_underlying_some hu, run_underlying_some hxt, Result.andThen_ok, run_sizeOf_some hinf, Sem.run_pure, Bool.false_eq_true, if_false, lenOf_slice, if_neg hle, run_info_some hinf, Bool.not_false, if_true, if_neg (hbig _), if_neg hcap, run_choose, hforced, run_askRoom, hold { w with drawn := w.drawn + 1 } rfl, hnew { w with drawn := w.drawn + 1 } rfl, run_zeroValue_some hz, run_newRow]
  · have hw : IntKind.i64.wrap (n : Int) = n := by unfold IntKind.wrap; simp [IntKind.bits, IntKind.signed]; omega
    have h1 : ¬ ((n : Int) < 0) := by omega
    have h2 : ¬ ((n : Int) * (j.bytes : Int) > 2 ^ 48) := by
      have : (n : Int) * (j.bytes : Int) ≤ 2 ^ 20 * 2 ^ 10 := Int.mul_le_mul (by omega) (by omega) (by omega) (by omega)
      omega
    cases d <;> first | (simp [isIntD] at hd; done) | skip
    simp only [Builtin.append_, List.getElem?_toArray, List.getElem?_cons_zero, List.getElem?_cons_succ, Sem.run_bind, run_underlying_some hu, run_underlying_some hxt, Result.andThen_ok, run_sizeOf_some hinf, Sem.run_pure, if_true, asInt, asIntOf, hw, if_neg h1, if_neg h2, run_info_some hinf, Int.toNat_natCast, if_neg hle, Bool.not_true, Bool.false_eq_true, if_false, if_neg (hbig _), if_neg hcap, run_choose, hforced, run_askRoom, hold { w with drawn := w.drawn + 1 } rfl]
    by_cases h0 : n * j.size = 0
    · simp only [h0, if_true, Sem.run_pure, Result.andThen_ok, hnew1 h0, run_zeroValue_some hz, run_newRow]
    · simp only [h0, if_false, Sem.run_bind, Sem.run_pure, Result.andThen_ok, hnew2 h0, run_zeroValue_some hz, run_newRow]


theorem Keep.congr_left {f' : FMap} {g' : LMap} {s' : St} {w' w1 : World} (h : Keep f g s w1 f' g' s' w') (hw : w1.heap = w.heap) (hcalm : Calm w w1) : Keep f g s w f' g' s' w' :=
  { h with calm := hcalm.trans h.calm, heap := by rw [← hw]; exact h.heap, keepC := (fun c hc a b => by rw [← hw] at hc ⊢; exact h.keepC c hc a b), newf := (fun b p x y => by rw [← hw]; exact h.newf b p x y), newg := (fun l m x y => by rw [← hw]; exact h.newg l m x y) }

/-- A grown block that grows in its place. -/
theorem Inj.regrow (h : Inj f g s w) {b off size : Nat} {p : Place} {kc cs : List Value} {w' : World} {ds : Array Value} {e : TypeId} (hf : f b = some p) (hk : s.get b = some ⟨kc, .grown size⟩)
    (hds : ds.size = p.room) (hw : w'.heap = w.heap.setIfInBounds p.block (.cells ds e (0, 0))) (hcalm : Calm w w') (hcs : CellsRel f g (p.off + off) cs ds.toList) :
    Inj (put f s.size { p with off := p.off + off, size := size }) g ((kill s b).push ⟨cs, .grown size⟩) w' ∧ Keep f g s w (put f s.size { p with off := p.off + off, size := size }) g ((kill s b).push ⟨cs, .grown size⟩) w' := by
  obtain ⟨ds0, e0, fz0, h1, h2, h3, h5, h4⟩ := h.blk b p ⟨kc, .grown size⟩ hf hk (by simp)
  have hplt : p.block < w.heap.size := (Array.getElem?_eq_some_iff.1 h1).1
  have hgr : p.grown = true := h5 size rfl
  have hps : p.size = size := by have := (h3 hgr).1; simp at this; exact this.symm
  have hnone : f s.size = none := by
    cases hf : f s.size with
    | none => rfl
    | some p => exact absurd (h.dom _ _ hf) (Nat.lt_irrefl _)
  have he : Ext f (put f s.size { p with off := p.off + off, size := size }) := ext_put _ hnone
  have hsame : ∀ c, c ≠ p.block → w'.heap[c]? = w.heap[c]? := fun c hcb => by rw [hw]; simp [Ne.symm hcb]
  have hsize : w'.heap.size = w.heap.size := by rw [hw]; simp
  have old : ∀ c k, c ≠ s.size → ((kill s b).push ⟨cs, .grown size⟩).get c = some k → k.mode ≠ .dead → b ≠ c ∧ s.get c = some k := fun c k hc hget hd => by
    rw [St.get_push_old _ _ _ (by simpa using hc)] at hget
    rcases kill_get s b c k hget with ⟨_, e⟩ | ⟨a, e⟩
    · exact absurd e hd
    · exact ⟨a, e⟩
  have knew : ((kill s b).push ⟨cs, .grown size⟩).get s.size = some ⟨cs, .grown size⟩ := by
    have := St.get_push_new (kill s b) ⟨cs, .grown size⟩
    simpa using this
  constructor
  · refine ⟨?_, ?_, ?_, ?_, h.lsep⟩
    · intro c q hc
      by_cases hcs' : c = s.size
      · subst hcs'; simp
      · rw [put_other f _ hcs'] at hc; have := h.dom c q hc; simp; omega
    · intro c q k hc hget hd
      by_cases hcs' : c = s.size
      · subst hcs'
        simp only [put_same, Option.some.injEq] at hc
        subst hc
        rw [knew] at hget
        cases hget
        refine ⟨ds, e, (0, 0), by rw [hw]; simp only [Array.getElem?_setIfInBounds, hplt, if_true], fun _ => rfl, fun _ => ⟨rfl, hds⟩, fun _ _ => hgr, fun i hi => ?_⟩
        obtain ⟨v, a1, a2⟩ := hcs i hi
        exact ⟨v, by simpa using a1, a2.mono he (ext_refl _)⟩
      · rw [put_other f _ hcs'] at hc
        obtain ⟨hbc, hget'⟩ := old c k hcs' hget hd
        exact (h.blk c q k hc hget' hd).mono he (ext_refl _) (hsame _ (fun e => h.sep b c p q _ k hbc hf hc hk hget' rfl hd e.symm))
    · intro c d q r k j hcd hc hd hgk hgj hwk hdj
      by_cases hcs' : c = s.size
      · subst hcs'
        have hds' : d ≠ s.size := fun e => hcd e.symm
        simp only [put_same, Option.some.injEq] at hc
        subst hc
        rw [put_other f _ hds'] at hd
        obtain ⟨hbd, hgj'⟩ := old d j hds' hgj hdj
        exact h.sep b d p r _ j hbd hf hd hk hgj' rfl hdj
      · rw [put_other f _ hcs'] at hc
        have hkd : k.mode ≠ .dead := fun e => by rw [e] at hwk; cases hwk
        obtain ⟨hbc, hgk'⟩ := old c k hcs' hgk hkd
        by_cases hds' : d = s.size
        · subst hds'
          simp only [put_same, Option.some.injEq] at hd
          subst hd
          exact h.sep c b q p k _ (Ne.symm hbc) hc hf hgk' hk hwk (by simp)
        · rw [put_other f _ hds'] at hd
          obtain ⟨_, hgj'⟩ := old d j hds' hgj hdj
          exact h.sep c d q r k j hcd hc hd hgk' hgj' hwk hdj
    · intro l m hl
      obtain ⟨r, a1, a2⟩ := h.loop l m hl
      refine ⟨r, by simpa using a1, a2.mono he (ext_refl _) (hsame _ fun e => ?_)⟩
      obtain ⟨t, fn, d, a3, _⟩ := a2
      rw [e, h1] at a3; cases a3
  · refine { dom := h.dom, ldom := h.ldom, ef := he, eg := ext_refl _, of := ?_, og := fun _ _ _ a => a, size := by simp, nloops := by simp, heap := by omega, keepA := ?_, keepL := fun _ _ _ => by simp, keepC := ?_, newf := ?_, newg := ?_, deads := ?_, modes := ?_, calm := hcalm }
    · intro c q hcs' hc
      rw [put_other f _ (Nat.ne_of_lt hcs')] at hc; exact hc
    · intro c hcs' hn
      rw [St.get_push_lt _ _ _ (by simpa using hcs')]
      exact kill_other s (fun e => by subst e; rw [hf] at hn; cases hn)
    · intro c _ hb _
      exact hsame c (fun e => hb b p _ hf hk rfl e.symm)
    · intro c q hc hn
      by_cases hcs' : c = s.size
      · subst hcs'
        simp only [put_same, Option.some.injEq] at hc
        subst hc
        exact .inr ⟨b, p, _, hf, hk, rfl, rfl⟩
      · rw [put_other f _ hcs'] at hc; rw [hc] at hn; cases hn
    · intro l m a b; rw [a] at b; cases b
    · intro c k0 k' hcs' hk0 hget hd
      rw [St.get_push_lt _ _ _ (by simpa using hcs')] at hget
      rcases kill_get s b c k' hget with ⟨_, e⟩ | ⟨_, e⟩
      · exact e
      · rw [hk0] at e; cases e; exact hd
    · intro c k' hcs' hget hwk
      have hkd : k'.mode ≠ .dead := fun e => by rw [e] at hwk; cases hwk
      exact ⟨k', (old c k' (Nat.ne_of_lt hcs') hget hkd).2, hwk⟩

end
end Go.Abs
