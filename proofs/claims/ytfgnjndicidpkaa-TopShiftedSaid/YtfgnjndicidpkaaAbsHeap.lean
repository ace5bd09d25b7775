/- The store against the heap: what is kept, and the operations on it. -/
import Derived.Test.YtfgnjndicidpkaaAbsRel
namespace Go.Abs

/-! ### The store -/
section
variable (s : St) (b c : Nat) (k : Blk)

theorem St.get_lt {s : St} {b : Nat} {k : Blk} (h : s.get b = some k) : b < s.size := by
  unfold St.get at h
  split at h
  · assumption
  · simp at h

theorem St.get_some (h : b < s.size) : ∃ k, s.get b = some k := by
  unfold St.get
  rw [if_pos h]
  have : s.size - 1 - b < s.rev.length := by unfold St.size at *; omega
  exact ⟨_, List.getElem?_eq_getElem this⟩

@[simp] theorem St.size_push : (s.push k).size = s.size + 1 := by simp [St.size, St.push]
@[simp] theorem St.size_set : (s.set b k).size = s.size := by unfold St.set; split <;> simp [St.size]

@[simp] theorem St.get_push_new : (s.push k).get s.size = some k := by
  simp [St.get, St.push, St.size]

theorem St.get_push_old (h : b ≠ s.size) : (s.push k).get b = s.get b := by
  unfold St.get
  simp only [St.size_push]
  by_cases hb : b < s.size
  · have h1 : b < s.size + 1 := by omega
    simp only [hb, h1, if_true, St.push]
    have : s.size + 1 - 1 - b = (s.size - 1 - b) + 1 := by omega
    rw [this, List.getElem?_cons_succ]
  · have h1 : ¬ b < s.size + 1 := by omega
    simp [hb, h1]

theorem St.get_push_lt (h : b < s.size) : (s.push k).get b = s.get b := St.get_push_old s b k (Nat.ne_of_lt h)

theorem St.get_set_same (h : b < s.size) : (s.set b k).get b = some k := by
  unfold St.get
  rw [St.size_set, if_pos h]
  unfold St.set
  rw [if_pos h]
  have : s.size - 1 - b < s.rev.length := by unfold St.size at *; omega
  simp [this]

theorem St.get_set_other (h : b ≠ c) : (s.set b k).get c = s.get c := by
  unfold St.get
  rw [St.size_set]
  by_cases hc : c < s.size
  · simp only [hc, if_true]
    unfold St.set
    by_cases hb : b < s.size
    · simp only [hb, if_true]
      have : s.size - 1 - b ≠ s.size - 1 - c := by omega
      simp [List.getElem?_set_ne this]
    · simp [hb]
  · simp [hc]

@[simp] theorem St.loop_push (l : Nat) : (s.push k).loop l = s.loop l := rfl
@[simp] theorem St.nloops_push : (s.push k).nloops = s.nloops := rfl
@[simp] theorem St.loop_set (l : Nat) : (s.set b k).loop l = s.loop l := by unfold St.set; split <;> rfl
@[simp] theorem St.nloops_set : (s.set b k).nloops = s.nloops := by unfold St.set; split <;> rfl

variable (l m : Nat) (r : LoopRec)
theorem St.loop_lt {s : St} {l : Nat} {r : LoopRec} (h : s.loop l = some r) : l < s.nloops := by
  unfold St.loop at h
  split at h
  · assumption
  · simp at h
@[simp] theorem St.nloops_pushLoop : (s.pushLoop r).nloops = s.nloops + 1 := by simp [St.nloops, St.pushLoop]
@[simp] theorem St.nloops_setLoop : (s.setLoop l r).nloops = s.nloops := by unfold St.setLoop; split <;> simp [St.nloops]
@[simp] theorem St.get_pushLoop : (s.pushLoop r).get b = s.get b := rfl
@[simp] theorem St.size_pushLoop : (s.pushLoop r).size = s.size := rfl
@[simp] theorem St.get_setLoop : (s.setLoop l r).get b = s.get b := by unfold St.setLoop; split <;> rfl
@[simp] theorem St.size_setLoop : (s.setLoop l r).size = s.size := by unfold St.setLoop; split <;> rfl
@[simp] theorem St.loop_pushLoop_new : (s.pushLoop r).loop s.nloops = some r := by simp [St.loop, St.pushLoop, St.nloops]
theorem St.loop_pushLoop_old (h : l ≠ s.nloops) : (s.pushLoop r).loop l = s.loop l := by
  unfold St.loop
  simp only [St.nloops_pushLoop]
  by_cases hb : l < s.nloops
  · have h1 : l < s.nloops + 1 := by omega
    simp only [hb, h1, if_true, St.pushLoop]
    have : s.nloops + 1 - 1 - l = (s.nloops - 1 - l) + 1 := by omega
    rw [this, List.getElem?_cons_succ]
  · have h1 : ¬ l < s.nloops + 1 := by omega
    simp [hb, h1]
theorem St.loop_setLoop_same (h : l < s.nloops) : (s.setLoop l r).loop l = some r := by
  unfold St.loop
  rw [St.nloops_setLoop, if_pos h]
  unfold St.setLoop
  rw [if_pos h]
  have : s.nloops - 1 - l < s.loops.length := by unfold St.nloops at *; omega
  simp [this]
theorem St.loop_setLoop_other (h : l ≠ m) : (s.setLoop l r).loop m = s.loop m := by
  unfold St.loop
  rw [St.nloops_setLoop]
  by_cases hc : m < s.nloops
  · simp only [hc, if_true]
    unfold St.setLoop
    by_cases hb : l < s.nloops
    · simp only [hb, if_true]
      have : s.nloops - 1 - l ≠ s.nloops - 1 - m := by omega
      simp [List.getElem?_set_ne this]
    · simp [hb]
  · simp [hc]
end

/-! ### The relation -/

/-- A block lies in the heap. -/
def Lies (f : FMap) (g : LMap) (w : World) (p : Place) (k : Blk) : Prop :=
  ∃ cs e fz, w.heap[p.block]? = some (.cells cs e fz) ∧ (k.mode.writable = true → fz = (0, 0)) ∧ (p.grown = true → k.mode = .grown p.size ∧ cs.size = p.room) ∧ (∀ n, k.mode = .grown n → p.grown = true) ∧
    ∀ i : Nat, i < k.cells.length → ∃ v, cs[p.off + i]? = some v ∧ VRel f g (k.cells.getD i undef) v

/-- A loop's record lies in the heap. -/
def LiesLoop (f : FMap) (g : LMap) (w : World) (m : Nat) (r : LoopRec) : Prop :=
  ∃ tmps fn d, w.heap[m]? = some (.loop { state := r.state, pending := r.pending, fn, tmps, params := r.params, assign := r.assign, body := r.body, defers := d }) ∧ VsRel f g r.fr tmps.toList ∧ codeOk r.assign = true ∧ codeOk r.body = true

structure Inj (f : FMap) (g : LMap) (s : St) (w : World) : Prop where
  dom : ∀ b p, f b = some p → b < s.size
  blk : ∀ b p k, f b = some p → s.get b = some k → k.mode ≠ .dead → Lies f g w p k
  sep : ∀ b c p q k j, b ≠ c → f b = some p → f c = some q → s.get b = some k → s.get c = some j → k.mode.writable = true → j.mode ≠ .dead → p.block ≠ q.block
  loop : ∀ l m, g l = some m → ∃ r, s.loop l = some r ∧ LiesLoop f g w m r
  lsep : ∀ l l' m, g l = some m → g l' = some m → l = l'

/-- What lies outside is as it was: the outside world, the tape, the output. -/
def Calm (w w' : World) : Prop := w'.os = w.os ∧ w'.tape = w.tape ∧ w'.output = w.output
theorem Calm.refl (w : World) : Calm w w := ⟨rfl, rfl, rfl⟩
theorem Calm.trans {w w' w'' : World} (h : Calm w w') (k : Calm w' w'') : Calm w w'' := ⟨k.1.trans h.1, k.2.1.trans h.2.1, k.2.2.trans h.2.2⟩

/-- What is kept from one moment to a later one. -/
structure Keep (f : FMap) (g : LMap) (s : St) (w : World) (f' : FMap) (g' : LMap) (s' : St) (w' : World) : Prop where
  dom : ∀ b p, f b = some p → b < s.size
  ldom : ∀ l m, g l = some m → l < s.nloops
  ef : Ext f f'
  eg : Ext g g'
  of : ∀ b p, b < s.size → f' b = some p → f b = some p
  og : ∀ l m, l < s.nloops → g' l = some m → g l = some m
  size : s.size ≤ s'.size
  nloops : s.nloops ≤ s'.nloops
  heap : w.heap.size ≤ w'.heap.size
  keepA : ∀ b, b < s.size → f b = none → s'.get b = s.get b
  keepL : ∀ l, l < s.nloops → g l = none → s'.loop l = s.loop l
  keepC : ∀ c, c < w.heap.size → (∀ b p k, f b = some p → s.get b = some k → k.mode.writable = true → p.block ≠ c) → (∀ l, g l ≠ some c) → w'.heap[c]? = w.heap[c]?
  newf : ∀ b p, f' b = some p → f b = none → w.heap.size ≤ p.block ∨ ∃ c q k, f c = some q ∧ s.get c = some k ∧ k.mode.writable = true ∧ q.block = p.block
  newg : ∀ l m, g' l = some m → g l = none → w.heap.size ≤ m
  deads : ∀ b k k', b < s.size → s.get b = some k → s'.get b = some k' → k.mode = .dead → k'.mode = .dead
  modes : ∀ b k', b < s.size → s'.get b = some k' → k'.mode.writable = true → ∃ k, s.get b = some k ∧ k.mode.writable = true
  calm : Calm w w'

section
variable {f f' f'' : FMap} {g g' g'' : LMap} {s s' s'' : St} {w w' w'' : World}

theorem Keep.refl (hd : ∀ b p, f b = some p → b < s.size) (hl : ∀ l m, g l = some m → l < s.nloops) : Keep f g s w f g s w where
  dom := hd
  ldom := hl
  ef := fun _ _ h => h
  eg := fun _ _ h => h
  of := fun _ _ _ h => h
  og := fun _ _ _ h => h
  size := Nat.le_refl _
  nloops := Nat.le_refl _
  heap := Nat.le_refl _
  keepA := fun _ _ _ => rfl
  keepL := fun _ _ _ => rfl
  keepC := fun _ _ _ _ => rfl
  newf := fun b p h h' => by rw [h] at h'; cases h'
  newg := fun b p h h' => by rw [h] at h'; cases h'
  deads := fun b k k' _ h h' hm => by rw [h] at h'; cases h'; exact hm
  modes := fun b k' _ h hm => ⟨k', h, hm⟩
  calm := Calm.refl w

theorem Keep.trans (h : Keep f g s w f' g' s' w') (k : Keep f' g' s' w' f'' g'' s'' w'') : Keep f g s w f'' g'' s'' w'' where
  dom := h.dom
  ldom := h.ldom
  ef := fun b p hb => k.ef b p (h.ef b p hb)
  eg := fun b p hb => k.eg b p (h.eg b p hb)
  of := fun b p hb hp => h.of b p hb (k.of b p (Nat.lt_of_lt_of_le hb h.size) hp)
  og := fun b p hb hp => h.og b p hb (k.og b p (Nat.lt_of_lt_of_le hb h.nloops) hp)
  size := Nat.le_trans h.size k.size
  nloops := Nat.le_trans h.nloops k.nloops
  heap := Nat.le_trans h.heap k.heap
  keepA := fun b hb hn => by
    have h1 : f' b = none := by
      cases hf : f' b with
      | none => rfl
      | some p => rw [h.of b p hb hf] at hn; cases hn
    rw [k.keepA b (Nat.lt_of_lt_of_le hb h.size) h1, h.keepA b hb hn]
  keepL := fun l hl hn => by
    have h1 : g' l = none := by
      cases hf : g' l with
      | none => rfl
      | some p => rw [h.og l p hl hf] at hn; cases hn
    rw [k.keepL l (Nat.lt_of_lt_of_le hl h.nloops) h1, h.keepL l hl hn]
  keepC := fun c hc hb hl => by
    rw [k.keepC c (Nat.lt_of_lt_of_le hc h.heap) ?_ ?_, h.keepC c hc hb hl]
    · intro b p j hf hget hw
      cases hfb : f b with
      | some q =>
        have hpq : p = q := by have := h.ef b q hfb; rw [hf] at this; exact Option.some.inj this
        subst hpq
        obtain ⟨k0, hk0, hw0⟩ := h.modes b j (h.dom b p hfb) hget hw
        exact hb b p k0 hfb hk0 hw0
      | none =>
        rcases h.newf b p hf hfb with h1 | ⟨c', q, k0, h1, h2, h3, h4⟩
        · omega
        · rw [← h4]; exact hb c' q k0 h1 h2 h3
    · intro l hgl
      cases hg : g l with
      | some m =>
        have : m = c := by have := h.eg l m hg; rw [hgl] at this; exact (Option.some.inj this).symm
        exact hl l (this ▸ hg)
      | none => have := h.newg l c hgl hg; omega
  newf := fun b p hb hn => by
    cases hf : f' b with
    | some q =>
      have : q = p := by have := k.ef b q hf; rw [hb] at this; exact (Option.some.inj this).symm
      subst this
      exact h.newf b q hf hn
    | none =>
      rcases k.newf b p hb hf with h1 | ⟨c, q, j, h1, h2, h3, h4⟩
      · exact .inl (Nat.le_trans h.heap h1)
      · cases hfc : f c with
        | none =>
          rcases h.newf c q h1 hfc with h5 | ⟨c', q', k', h5, h6, h7, h8⟩
          · exact .inl (h4 ▸ h5)
          · exact .inr ⟨c', q', k', h5, h6, h7, h8.trans h4⟩
        | some q' =>
          have hq : q' = q := by have := h.ef c q' hfc; rw [h1] at this; exact (Option.some.inj this).symm
          subst hq
          obtain ⟨k0, hk0, hw0⟩ := h.modes c j (h.dom c q' hfc) h2 h3
          exact .inr ⟨c, q', k0, hfc, hk0, hw0, h4⟩
  newg := fun l m hb hn => by
    cases hf : g' l with
    | some q =>
      have : q = m := by have := k.eg l q hf; rw [hb] at this; exact (Option.some.inj this).symm
      subst this
      exact h.newg l q hf hn
    | none => exact Nat.le_trans h.heap (k.newg l m hb hf)
  deads := fun b k0 k' hb hk0 hk' hd => by
    obtain ⟨k1, hk1⟩ := St.get_some s' b (Nat.lt_of_lt_of_le hb h.size)
    exact k.deads b k1 k' (Nat.lt_of_lt_of_le hb h.size) hk1 hk' (h.deads b k0 k1 hb hk0 hk1 hd)
  modes := fun b k' hb hk hw => by
    obtain ⟨k0, h1, h2⟩ := k.modes b k' (Nat.lt_of_lt_of_le hb h.size) hk hw
    exact h.modes b k0 hb h1 h2
  calm := h.calm.trans k.calm

theorem Inj.ldom (h : Inj f g s w) : ∀ l m, g l = some m → l < s.nloops := fun l m hl => by
  obtain ⟨r, hr, _⟩ := h.loop l m hl
  exact St.loop_lt hr

theorem Inj.keep (h : Inj f g s w) : Keep f g s w f g s w := Keep.refl h.dom h.ldom

/-- The relation asks the heap alone. -/
theorem Inj.congr (h : Inj f g s w) (hw : w'.heap = w.heap) : Inj f g s w' where
  dom := h.dom
  blk := fun b p k a c d => by obtain ⟨cs, e, fz, h1, h2⟩ := h.blk b p k a c d; exact ⟨cs, e, fz, by rw [hw]; exact h1, h2⟩
  sep := h.sep
  loop := fun l m a => by obtain ⟨r, h1, t, fn, d, h2, h3⟩ := h.loop l m a; exact ⟨r, h1, t, fn, d, by rw [hw]; exact h2, h3⟩
  lsep := h.lsep

theorem Keep.congr (h : Keep f g s w f' g' s' w') (hw : w''.heap = w'.heap) (hcalm : Calm w' w'') : Keep f g s w f' g' s' w'' :=
  { h with calm := h.calm.trans hcalm, heap := by rw [hw]; exact h.heap, keepC := fun c hc a b => by rw [hw]; exact h.keepC c hc a b }

/-- A map with one more entry. -/
def put {α : Type} (f : Nat → Option α) (b : Nat) (p : α) : Nat → Option α := fun x => if x = b then some p else f x
@[simp] theorem put_same {α : Type} (f : Nat → Option α) (b : Nat) (p : α) : put f b p b = some p := by simp [put]
theorem put_other {α : Type} (f : Nat → Option α) {b c : Nat} (p : α) (h : c ≠ b) : put f b p c = f c := by simp [put, h]
theorem ext_put {α : Type} {f : Nat → Option α} {b : Nat} (p : α) (h : f b = none) : Ext f (put f b p) := fun c q hc => by
  by_cases e : c = b
  · subst e; rw [h] at hc; cases hc
  · rw [put_other f p e]; exact hc

theorem ext_refl {α : Type} (f : Nat → Option α) : Ext f f := fun _ _ h => h

theorem Lies.mono (hf : Ext f f') (hg : Ext g g') {p : Place} {k : Blk} (h : Lies f g w p k) (hw : w'.heap[p.block]? = w.heap[p.block]?) : Lies f' g' w' p k := by
  obtain ⟨cs, e, fz, h1, h2, h3, h5, h4⟩ := h
  exact ⟨cs, e, fz, hw.trans h1, h2, h3, h5, fun i hi => let ⟨v, a, b⟩ := h4 i hi; ⟨v, a, b.mono hf hg⟩⟩

theorem LiesLoop.mono (hf : Ext f f') (hg : Ext g g') {m : Nat} {r : LoopRec} (h : LiesLoop f g w m r) (hw : w'.heap[m]? = w.heap[m]?) : LiesLoop f' g' w' m r := by
  obtain ⟨t, fn, d, h1, h2, h3⟩ := h
  exact ⟨t, fn, d, hw.trans h1, h2.mono hf hg, h3⟩

theorem Lies.lt {p : Place} {k : Blk} (h : Lies f g w p k) : p.block < w.heap.size := by
  obtain ⟨cs, e, fz, h1, _⟩ := h
  exact (Array.getElem?_eq_some_iff.1 h1).1

theorem LiesLoop.lt {m : Nat} {r : LoopRec} (h : LiesLoop f g w m r) : m < w.heap.size := by
  obtain ⟨t, fn, d, h1, _⟩ := h
  exact (Array.getElem?_eq_some_iff.1 h1).1

theorem heap_alloc_lt (w : World) (o : Obj) {i : Nat} (h : i < w.heap.size) : (w.alloc o).heap[i]? = w.heap[i]? := by
  show (w.heap.push o)[i]? = _
  simp [Array.getElem?_push, Nat.ne_of_lt h]

theorem heap_alloc_eq (w : World) (o : Obj) : (w.alloc o).heap[w.heap.size]? = some o := by
  show (w.heap.push o)[w.heap.size]? = _
  simp

/-- A place of the heap that no block of the evaluator's uses. -/
theorem Inj.other (h : Inj f g s w) {b : Nat} {p : Place} {k : Blk} (hf : f b = some p) (hg : s.get b = some k) (hm : k.mode ≠ .dead) {o : Obj} (ho : w.heap[p.block]? = some o) : ∃ cs e fz, o = .cells cs e fz := by
  obtain ⟨cs, e, fz, h1, _⟩ := h.blk b p k hf hg hm
  rw [ho] at h1
  exact ⟨cs, e, fz, Option.some.inj h1⟩

/-- A new block that is laid on both sides; in the heap it may have more cells. -/
theorem Inj.push (h : Inj f g s w) {cs cs' : List Value} (hcs : VsRel f g cs cs') (m : Mode) (e : TypeId) (rest : List Value) (p0 : Place) (hp0 : p0.block = w.heap.size) (hp1 : p0.off = 0)
    (hp2 : p0.grown = true → m = .grown p0.size ∧ (cs' ++ rest).length = p0.room) (hp3 : ∀ n, m = .grown n → p0.grown = true) :
    Inj (put f s.size p0) g (s.push ⟨cs, m⟩) (w.alloc (.cells (cs' ++ rest).toArray e)) ∧
    Keep f g s w (put f s.size p0) g (s.push ⟨cs, m⟩) (w.alloc (.cells (cs' ++ rest).toArray e)) := by
  have hnone : f s.size = none := by
    cases hf : f s.size with
    | none => rfl
    | some p => exact absurd (h.dom _ _ hf) (Nat.lt_irrefl _)
  have he : Ext f (put f s.size p0) := ext_put _ hnone
  have hlies : ∀ b p k, f b = some p → s.get b = some k → k.mode ≠ .dead → Lies (put f s.size p0) g (w.alloc (.cells (cs' ++ rest).toArray e)) p k := fun b p k a c d =>
    (h.blk b p k a c d).mono he (ext_refl _) (heap_alloc_lt _ _ (h.blk b p k a c d).lt)
  constructor
  · refine ⟨?_, ?_, ?_, ?_, h.lsep⟩
    · intro b p hb
      by_cases hbs : b = s.size
      · subst hbs; simp
      · rw [put_other f _ hbs] at hb; have := h.dom b p hb; simp; omega
    · intro b p k hb hk hd
      by_cases hbs : b = s.size
      · subst hbs
        simp only [put_same, Option.some.injEq] at hb
        subst hb
        simp only [St.get_push_new, Option.some.injEq] at hk
        subst hk
        refine ⟨(cs' ++ rest).toArray, e, (0, 0), by rw [hp0]; exact heap_alloc_eq _ _, fun _ => rfl, fun hg => by simpa using hp2 hg, hp3, fun i hi => ?_⟩
        have hi' : i < cs'.length := hcs.1 ▸ hi
        refine ⟨cs'[i], by rw [hp1]; simp [List.getElem?_append_left hi', hi'], ?_⟩
        have := (hcs.2 i).mono he (ext_refl g)
        simpa [List.getD, hi'] using this
      · rw [put_other f _ hbs] at hb
        rw [St.get_push_old _ _ _ hbs] at hk
        exact hlies b p k hb hk hd
    · intro b c p q k j hbc hb hc hk hj hw hd
      by_cases hbs : b = s.size
      · subst hbs
        have hcs' : c ≠ s.size := fun e => hbc e.symm
        simp only [put_same, Option.some.injEq] at hb
        subst hb
        rw [put_other f _ hcs'] at hc
        rw [St.get_push_old _ _ _ hcs'] at hj
        have := (h.blk c q j hc hj hd).lt
        omega
      · rw [put_other f _ hbs] at hb
        rw [St.get_push_old _ _ _ hbs] at hk
        have hkd : k.mode ≠ .dead := fun e => by rw [e] at hw; cases hw
        by_cases hcs' : c = s.size
        · subst hcs'
          simp only [put_same, Option.some.injEq] at hc
          subst hc
          have := (h.blk b p k hb hk hkd).lt
          omega
        · rw [put_other f _ hcs'] at hc
          rw [St.get_push_old _ _ _ hcs'] at hj
          exact h.sep b c p q k j hbc hb hc hk hj hw hd
    · intro l mm hl
      obtain ⟨r, h1, h2⟩ := h.loop l mm hl
      exact ⟨r, by simpa using h1, h2.mono he (ext_refl _) (heap_alloc_lt _ _ h2.lt)⟩
  · refine { dom := h.dom, ldom := h.ldom, ef := he, eg := ext_refl _, of := ?_, og := fun _ _ _ a => a, size := by simp, nloops := by simp, heap := by simp, keepA := ?_, keepL := fun _ _ _ => by simp, keepC := ?_, newf := ?_, newg := ?_, deads := ?_, modes := ?_, calm := ⟨rfl, rfl, rfl⟩ }
    · intro b p hbs hb
      rw [put_other f _ (Nat.ne_of_lt hbs)] at hb; exact hb
    · intro b hbs _
      exact St.get_push_lt _ _ _ hbs
    · intro c hc _ _
      exact heap_alloc_lt _ _ hc
    · intro b p hb hn
      by_cases hbs : b = s.size
      · subst hbs
        simp only [put_same, Option.some.injEq] at hb
        subst hb
        exact .inl (Nat.le_of_eq hp0.symm)
      · rw [put_other f _ hbs] at hb; rw [hb] at hn; cases hn
    · intro l m a b; rw [a] at b; cases b
    · intro b k k' hbs hk hk' hd
      rw [St.get_push_lt _ _ _ hbs, hk] at hk'
      cases hk'; exact hd
    · intro b k' hbs hk hw
      rw [St.get_push_lt _ _ _ hbs] at hk
      exact ⟨k', hk, hw⟩

/-! ### Writing -/

/-- The cells of a row against those of a block. -/
def CellsRel (f : FMap) (g : LMap) (off : Nat) (l : List Value) (cs : List Value) : Prop := ∀ i : Nat, i < l.length → ∃ v, cs[off + i]? = some v ∧ VRel f g (l.getD i undef) v

theorem CellsRel.set {off : Nat} {l cs : List Value} (h : CellsRel f g off l cs) {i : Nat} {v v' : Value} (hv : VRel f g v v') :
    CellsRel f g off (l.set i v) (cs.set (off + i) v') := by
  intro j hj
  simp only [List.length_set] at hj
  obtain ⟨u, h1, h2⟩ := h j hj
  have hlt : off + j < cs.length := (List.getElem?_eq_some_iff.1 h1).1
  by_cases e : i = j
  · subst e
    exact ⟨v', by simp [hlt], by simp [List.getD, hj, hv]⟩
  · refine ⟨u, by rw [List.getElem?_set_ne (by omega)]; exact h1, ?_⟩
    simpa [List.getD, List.getElem?_set, e] using h2

@[simp] theorem length_splice : ∀ (vs l : List Value) (i : Nat), (splice l i vs).length = l.length
  | [], _, _ => rfl
  | v :: vs, l, i => by simp [splice, length_splice vs]

theorem CellsRel.splice {off : Nat} : ∀ {vs vs' l cs : List Value} {i : Nat}, CellsRel f g off l cs → VsRel f g vs vs' → i + vs.length ≤ l.length →
    CellsRel f g off (splice l i vs) (splice cs (off + i) vs')
  | [], vs', l, cs, i, h, k, _ => by rw [k.of_nil]; exact h
  | v :: vs, vs', l, cs, i, h, k, hi => by
    obtain ⟨v', m', rfl, hv, hm⟩ := k.of_cons
    simp only [List.length_cons] at hi
    exact CellsRel.splice (i := i + 1) (h.set hv) hm (by simp; omega)

theorem run_storeCells (P : Program) (b off : Nat) (e : TypeId) : ∀ (vs : List Value) (i : Nat) (w : World) (cs : Array Value), w.heap[b]? = some (.cells cs e (0, 0)) → (∀ v ∈ vs, v.oneCell' = true) → off + i + vs.length ≤ cs.size →
    ∃ w', (storeCells ⟨b, off, none⟩ vs i).run P w = .ok () w' ∧ w'.heap = w.heap.setIfInBounds b (.cells (splice cs.toList (off + i) vs).toArray e (0, 0)) ∧ Calm w w'
  | [], i, w, cs, hb, _, _ => by
    refine ⟨w, rfl, ?_, Calm.refl w⟩
    simp only [Abs.splice]
    obtain ⟨hlt, heq⟩ := Array.getElem?_eq_some_iff.1 hb
    apply Array.ext (by simp)
    intro j h1 h2
    by_cases hj : b = j
    · subst hj; simp [heq]
    · rw [Array.getElem_setIfInBounds_ne (by simpa using h1) hj]
  | v :: vs, i, w, cs, hb, hv, hlen => by
    simp only [List.length_cons] at hlen
    have hlt : b < w.heap.size := (Array.getElem?_eq_some_iff.1 hb).1
    have ha : (⟨b, off, none⟩ : Addr).add i = ⟨b, off + i, none⟩ := by unfold Addr.add; split <;> simp_all
    have hcell : w.cell? ⟨b, off + i, none⟩ = some (cs[off + i]'(by omega)) := by simp [World.cell?, hb, show off + i < cs.size by omega]
    have hfz : w.frozen? ⟨b, off + i, none⟩ = false := by simp [World.frozen?, hb]
    have hset : (w.setCell ⟨b, off + i, none⟩ v).heap[b]? = some (.cells (cs.setIfInBounds (off + i) v) e (0, 0)) := by
      simp [World.setCell, Array.getElem?_modify, hb]
    obtain ⟨w', h1, h2, h3⟩ := run_storeCells P b off e vs (i + 1) (w.setCell ⟨b, off + i, none⟩ v) _ hset (fun u hu => hv u (by simp [hu])) (by simp; omega)
    refine ⟨w', ?_, ?_, Calm.trans ⟨rfl, rfl, rfl⟩ h3⟩
    · simp only [storeCells, ha, Sem.run_bind, run_store P w _ v _ (hv v (by simp)), hcell, hfz, Bool.false_eq_true, if_false, Result.andThen_ok]
      exact h1
    · rw [h2]
      simp only [Abs.splice, Array.toList_setIfInBounds, Nat.add_assoc]
      apply Array.ext (by simp)
      intro j h3 h4
      by_cases hj : b = j
      · subst hj; simp
      · rw [Array.getElem_setIfInBounds_ne (by simpa using h3) hj, Array.getElem_setIfInBounds_ne (by simpa using h3) hj]
        simp [World.setCell, Array.getElem_modify, hj]

/-- A block that is written on both sides. -/
theorem Inj.write (h : Inj f g s w) {b i : Nat} {p : Place} {vs vs' : List Value} (hf : f b = some p) (hs : s.setCells b i vs = some s') (hvs : VsRel f g vs vs') {cs : Array Value} {e : TypeId}
    (hc : w.heap[p.block]? = some (.cells cs e (0, 0))) (hw : w'.heap = w.heap.setIfInBounds p.block (.cells (splice cs.toList (p.off + i) vs').toArray e (0, 0))) (hcalm : Calm w w') :
    Inj f g s' w' ∧ Keep f g s w f g s' w' := by
  unfold St.setCells at hs
  split at hs
  · rename_i l m hk
    split at hs
    · rename_i hcond
      simp only [Bool.and_eq_true, decide_eq_true_eq] at hcond
      obtain ⟨⟨hm, hlen⟩, _⟩ := hcond
      simp only [Option.some.injEq] at hs
      subst hs
      have hbs := h.dom b p hf
      have hmd : m ≠ .dead := fun e => by rw [e] at hm; cases hm
      have hsame : ∀ c, c ≠ p.block → w'.heap[c]? = w.heap[c]? := fun c hcb => by rw [hw]; simp [Ne.symm hcb]
      have hsize : w'.heap.size = w.heap.size := by rw [hw]; simp
      have hplt : p.block < w.heap.size := (Array.getElem?_eq_some_iff.1 hc).1
      constructor
      · refine ⟨fun c q hq => by simpa using h.dom c q hq, ?_, ?_, ?_, h.lsep⟩
        · intro c q k hq hget hd
          by_cases hbc : b = c
          · subst hbc
            rw [hf] at hq; cases hq
            rw [St.get_set_same _ _ _ hbs] at hget
            cases hget
            obtain ⟨cs0, e0, fz0, h1, h2, h3, h5, h4⟩ := h.blk b p ⟨l, m⟩ hf hk hmd
            rw [hc] at h1; cases h1
            refine ⟨_, e, (0, 0), (by rw [hw]; simp only [Array.getElem?_setIfInBounds, hplt, if_true] : _ = some (Obj.cells (splice cs.toList (p.off + i) vs').toArray e (0, 0))), fun _ => rfl, fun hg => ⟨(h3 hg).1, by simpa using (h3 hg).2⟩, h5, fun j hj => ?_⟩
            have hr : CellsRel f g p.off l cs.toList := fun j hj => by obtain ⟨v, a, b⟩ := h4 j hj; exact ⟨v, by simpa using a, b⟩
            obtain ⟨v, a, b⟩ := (hr.splice hvs hlen) j hj
            exact ⟨v, by simpa using a, b⟩
          · rw [St.get_set_other _ _ _ _ hbc] at hget
            exact (h.blk c q k hq hget hd).mono (ext_refl _) (ext_refl _) (hsame _ (fun e => h.sep b c p q ⟨l, m⟩ k hbc hf hq hk hget hm hd e.symm))
        · intro c d q r k j hcd hq hr hgk hgj hwk hdj
          have get_mode : ∀ x k, (s.set b ⟨splice l i vs, m⟩).get x = some k → ∃ k0, s.get x = some k0 ∧ k0.mode = k.mode := fun x k hx => by
            by_cases hbx : b = x
            · subst hbx; rw [St.get_set_same _ _ _ hbs] at hx; cases hx; exact ⟨_, hk, rfl⟩
            · rw [St.get_set_other _ _ _ _ hbx] at hx; exact ⟨k, hx, rfl⟩
          obtain ⟨k0, a1, a2⟩ := get_mode c k hgk
          obtain ⟨j0, b1, b2⟩ := get_mode d j hgj
          exact h.sep c d q r k0 j0 hcd hq hr a1 b1 (a2 ▸ hwk) (b2 ▸ hdj)
        · intro l0 m0 hl
          obtain ⟨r, h1, h2⟩ := h.loop l0 m0 hl
          refine ⟨r, by simpa using h1, h2.mono (ext_refl _) (ext_refl _) (hsame _ fun e => ?_)⟩
          obtain ⟨t, fn, d, h3, _⟩ := h2
          rw [e, hc] at h3; cases h3
      · refine { dom := h.dom, ldom := h.ldom, ef := ext_refl _, eg := ext_refl _, of := fun _ _ _ a => a, og := fun _ _ _ a => a, size := by simp, nloops := by simp, heap := by omega, keepA := ?_, keepL := fun _ _ _ => by simp, keepC := ?_, newf := ?_, newg := ?_, deads := ?_, modes := ?_, calm := hcalm }
        · intro c _ hn
          exact St.get_set_other _ _ _ _ (fun e => by subst e; rw [hf] at hn; cases hn)
        · intro c _ hb _
          exact hsame c (fun e => hb b p ⟨l, m⟩ hf hk hm e.symm)
        · intro c q a b; rw [a] at b; cases b
        · intro c q a b; rw [a] at b; cases b
        · intro c k0 k' _ hk0 hget hd
          by_cases hbc : b = c
          · subst hbc; rw [hk] at hk0; cases hk0; exact absurd hd hmd
          · rw [St.get_set_other _ _ _ _ hbc, hk0] at hget; cases hget; exact hd
        · intro c k' _ hget hwk
          by_cases hbc : b = c
          · subst hbc; exact ⟨_, hk, hm⟩
          · rw [St.get_set_other _ _ _ _ hbc] at hget; exact ⟨k', hget, hwk⟩
    · cases hs
  · cases hs

theorem kill_get (s : St) (b c : Nat) : ∀ k, (kill s b).get c = some k → (b = c ∧ k.mode = .dead) ∨ (b ≠ c ∧ s.get c = some k) := by
  intro k hk
  unfold kill at hk
  split at hk
  · rename_i l m hb
    by_cases hbc : b = c
    · subst hbc
      rw [St.get_set_same _ _ _ (St.get_lt hb)] at hk
      cases hk
      exact .inl ⟨rfl, rfl⟩
    · rw [St.get_set_other _ _ _ _ hbc] at hk
      exact .inr ⟨hbc, hk⟩
  · rename_i hb
    by_cases hbc : b = c
    · subst hbc; rw [hb] at hk; cases hk
    · exact .inr ⟨hbc, hk⟩

@[simp] theorem size_kill (s : St) (b : Nat) : (kill s b).size = s.size := by unfold kill; split <;> simp
@[simp] theorem nloops_kill (s : St) (b : Nat) : (kill s b).nloops = s.nloops := by unfold kill; split <;> simp
@[simp] theorem loop_kill (s : St) (b l : Nat) : (kill s b).loop l = s.loop l := by unfold kill; split <;> simp
theorem kill_other (s : St) {b c : Nat} (h : b ≠ c) : (kill s b).get c = s.get c := by
  unfold kill; split
  · exact St.get_set_other _ _ _ _ h
  · rfl

/-- A block that is given up. -/
theorem Inj.killed (h : Inj f g s w) {b : Nat} {p : Place} (hf : f b = some p) : Inj f g (kill s b) w ∧ Keep f g s w f g (kill s b) w := by
  constructor
  · refine ⟨fun c q hq => by simpa using h.dom c q hq, ?_, ?_, ?_, h.lsep⟩
    · intro c q k hq hk hd
      rcases kill_get s b c k hk with ⟨_, e⟩ | ⟨_, e⟩
      · exact absurd e hd
      · exact h.blk c q k hq e hd
    · intro c d q r k j hcd hq hr hk hj hw hd
      rcases kill_get s b c k hk with ⟨_, e⟩ | ⟨_, e⟩
      · rw [e] at hw; cases hw
      · rcases kill_get s b d j hj with ⟨_, e'⟩ | ⟨_, e'⟩
        · exact absurd e' hd
        · exact h.sep c d q r k j hcd hq hr e e' hw hd
    · intro l m hl; simpa using h.loop l m hl
  · refine { dom := h.dom, ldom := h.ldom, ef := ext_refl _, eg := ext_refl _, of := fun _ _ _ a => a, og := fun _ _ _ a => a, size := by simp, nloops := by simp, heap := Nat.le_refl _, keepA := ?_, keepL := fun _ _ _ => by simp, keepC := fun _ _ _ _ => rfl, newf := ?_, newg := ?_, deads := ?_, modes := ?_, calm := ⟨rfl, rfl, rfl⟩ }
    · intro c _ hn
      exact kill_other s (fun e => by subst e; rw [hf] at hn; cases hn)
    · intro c q a b; rw [a] at b; cases b
    · intro c q a b; rw [a] at b; cases b
    · intro c k0 k' _ hk0 hk hd
      rcases kill_get s b c k' hk with ⟨_, e⟩ | ⟨_, e⟩
      · exact e
      · rw [hk0] at e; cases e; exact hd
    · intro c k' _ hk hw
      rcases kill_get s b c k' hk with ⟨_, e⟩ | ⟨_, e⟩
      · rw [e] at hw; cases hw
      · exact ⟨k', e, hw⟩

end
end Go.Abs
