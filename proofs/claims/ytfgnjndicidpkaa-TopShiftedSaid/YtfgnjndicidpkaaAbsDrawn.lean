/- A region whose order is drawn: every order comes to what the text's order comes to. -/
import Derived.Test.YtfgnjndicidpkaaAbsMap
namespace Go.Abs
section
variable {P : Program} {call : Value → List Value → St → Option (Value × St)} {ops : Array Oper} {f f0 : FMap} {g g0 : LMap} {s0 : St} {w w0 : World} {fr0 : Fr}

/-- Is operation i carried out, and of this class? -/
def Is (ops : Array Oper) (W : Nat → Bool) (c : Class) (i : Nat) : Prop := ∃ o, ops[i]? = some o ∧ W i = true ∧ classOf o.op = c

theorem Is.lt {W : Nat → Bool} {c : Class} {i : Nat} (h : Is ops W c i) : i < ops.size := by
  obtain ⟨o, ho, _⟩ := h
  exact (Array.getElem?_eq_some_iff.1 ho).1

theorem Is.uniq {W : Nat → Bool} {c d : Class} {i : Nat} (h : Is ops W c i) (k : Is ops W d i) : c = d := by
  obtain ⟨o, ho, _, e⟩ := h
  obtain ⟨o', ho', _, e'⟩ := k
  rw [ho] at ho'; cases ho'
  exact e.symm.trans e'

theorem room_lt : ∀ (l : List Oper) (i : Nat) (o : Oper), l[i]? = some o → classOf o.op = .fresh → i < room l
  | [], i, o, h, _ => by simp at h
  | p :: l, 0, o, h, hc => by
    simp only [List.getElem?_cons_zero, Option.some.injEq] at h
    subst h
    unfold room
    split
    · rw [if_pos hc]; omega
    · omega
  | p :: l, i + 1, o, h, hc => by
    simp only [List.getElem?_cons_succ] at h
    have := room_lt l i o h hc
    unfold room
    split
    · omega
    · omega

theorem Is.room {W : Nat → Bool} {i : Nat} (h : Is ops W .fresh i) : i < Abs.room ops.toList := by
  obtain ⟨o, ho, _, hc⟩ := h
  exact room_lt _ _ o (by simpa using ho) hc

structure Env (P : Program) (call : Value → List Value → St → Option (Value × St)) (ops : Array Oper) (base : Nat) (F : Nat → Fr) (S : Nat → St) (V : Nat → Value) (W : Nat → Bool) (C : Nat → List Value) (M : Nat → Nat → Value) (s0 : St) (fr0 : Fr) : Prop where
  tr : Tr P call ops base 0 F S V W C M [] []
  lex : Region.lexB .any ops = true
  f0 : F 0 = fr0
  base : s0.size = base

def dstOf (ops : Array Oper) (i : Nat) : Option Tmp := (ops[i]?).bind (·.dst)

structure Mid (P : Program) (ops : Array Oper) (base : Nat) (F : Nat → Fr) (S : Nat → St) (V : Nat → Value) (W : Nat → Bool) (C : Nat → List Value) (s0 : St) (fr0 : Fr) (f0 : FMap) (g0 : LMap) (w0 : World) (ds : List Deferred)
    (X : Nat → Bool) (m : Nat) (f : FMap) (g : LMap) (a : Act) (w : World) : Prop where
  fr : VsRel f g (frUp (dstOf ops) V fr0 X ops.size) a.tmps.toList
  inj : Inj f g (S m) w
  keep : Keep f0 g0 s0 w0 f g (S m) w
  mle : m ≤ ops.size
  down : ∀ k o, X k = true → ops[k]? = some o → ∀ e ∈ o.after, Region.binds .any e = true → X e.on = true
  done : ∀ i, i < m → Is ops W .hard i → X i = true
  todo : ∀ i, m ≤ i → Is ops W .hard i → X i = false
  mapped : ∀ i, Is ops W .fresh i → X i = true → ∃ p, f (base + i) = some p
  early : ∀ i p, Is ops W .fresh i → m ≤ i → f (base + i) = some p → p.off = 0 ∧ p.grown = false ∧ (∃ cs' e, w.heap[p.block]? = some (.cells cs' e (0, 0)) ∧ VsRel f g (C i) cs'.toList) ∧
    (∀ b q k, b ≠ base + i → f b = some q → (S m).get b = some k → k.mode ≠ .dead → q.block ≠ p.block) ∧ ∀ j q, Is ops W .fresh j → m ≤ j → j ≠ i → f (base + j) = some q → q.block ≠ p.block
  unm : ∀ i, Is ops W .fresh i → X i = false → f (base + i) = none
  unl : ∀ i, Is ops W .fresh i → X i = false → i < m → (S m).get (base + i) = some ⟨C i, .rw⟩
  sz : ∀ i, i < room ops.toList → base + i < (S m).size
  dead : ∀ i, m ≤ i → i < room ops.toList → ∃ k, (S m).get (base + i) = some k ∧ k.mode = .dead
  rd : ∀ i o, ops[i]? = some o → W i = true → isRead o.op → X i = false → i < m → aread P o.op (F i) (S m) = some (V i)
  defs : a.defers = ds

variable {base : Nat} {F : Nat → Fr} {S : Nat → St} {V : Nat → Value} {W : Nat → Bool} {C : Nat → List Value} {M : Nat → Nat → Value} {X : Nat → Bool} {m : Nat} {a : Act} {ds : List Deferred}

theorem Env.frame (E : Env P call ops base F S V W C M s0 fr0) : ∀ i, i ≤ ops.size → F i = frUp (dstOf ops) V fr0 (fun _ => true) i
  | 0, _ => E.f0
  | i + 1, h => by
    have ho : ops[i]? = some ops[i] := Array.getElem?_eq_getElem (by omega)
    have h1 := (E.tr.want i _ (Nat.zero_le _) ho).2
    rw [h1, E.frame i (by omega)]
    simp [frUp, dstOf, ho]

theorem Env.facts (E : Env P call ops base F S V W C M s0 fr0) {i : Nat} {oi : Oper} (hi : ops[i]? = some oi) : (∀ e ∈ oi.after, Region.binds .any e = true → e.on < i) ∧
    ∀ j oj, i < j → ops[j]? = some oj → (∃ e ∈ oj.after, Region.binds .any e = true ∧ e.on = i) ∨ oi.apart ops oj = true := by
  have h := E.lex
  unfold Region.lexB at h
  simp only [Bool.and_eq_true] at h
  exact lex_facts ops.size 0 (Array.replicate ops.size false) (by simp) (fun j hj => by simp [Array.getD, hj]) (by omega) h.2 i oi (Nat.zero_le _) hi

/-- What operation i looks at has its value. -/
theorem Env.looks (E : Env P call ops base F S V W C M s0 fr0) (down : ∀ k o, X k = true → ops[k]? = some o → ∀ e ∈ o.after, Region.binds .any e = true → X e.on = true) {i : Nat} {oi : Oper} (hi : ops[i]? = some oi) (hX : X i = false)
    (hr : ∀ e ∈ oi.after, Region.binds .any e = true → X e.on = true) {t : Tmp} (ht : t ∈ oi.looksAt ops) : getf (frUp (dstOf ops) V fr0 X ops.size) t = getf (F i) t := by
  have hlt : i < ops.size := (Array.getElem?_eq_some_iff.1 hi).1
  have e1 : getf (frUp (dstOf ops) V fr0 X ops.size) t = getf (frUp (dstOf ops) V fr0 (fun k => decide (k < i)) ops.size) t := by
    refine frUp_congr _ fun k hk hd => ?_
    have hok : ops[k]? = some ops[k] := Array.getElem?_eq_getElem hk
    have hdk : ops[k].dst = some t := by simpa [dstOf, hok] using hd
    rcases Nat.lt_trichotomy k i with h | h | h
    · simp only [h, decide_true]
      rcases (E.facts hok).2 i oi h hi with ⟨e, he, hb, rfl⟩ | hap
      · exact hr e he hb
      · exact absurd ht ((Oper.apart_spec hap).1 t hdk)
    · subst h; simp [hX]
    · have : ¬ k < i := by omega
      simp only [this, decide_false]
      rcases (E.facts hi).2 k _ h hok with ⟨e, he, hb, rfl⟩ | hap
      · cases hXk : X k with
        | false => rfl
        | true => rw [down k _ hXk hok e he hb] at hX; cases hX
      · exact absurd ht ((Oper.apart_spec hap).2.2 t hdk)
  rw [e1, frUp_beyond i ops.size (by omega) (fun k h1 _ => by simp; omega), E.frame i (by omega)]
  exact frUp_congr i fun k hk _ => by simp [hk]

theorem Env.ops_ev (E : Env P call ops base F S V W C M s0 fr0) (down : ∀ k o, X k = true → ops[k]? = some o → ∀ e ∈ o.after, Region.binds .any e = true → X e.on = true) {i : Nat} {oi : Oper} (hi : ops[i]? = some oi) (hX : X i = false)
    (hr : ∀ e ∈ oi.after, Region.binds .any e = true → X e.on = true) : ∀ x ∈ oi.op.operands, ev (frUp (dstOf ops) V fr0 X ops.size) x = ev (F i) x := by
  intro x hx
  cases x with
  | tmp t => exact E.looks down hi hX hr (List.mem_append_left _ (List.mem_filterMap.2 ⟨.tmp t, by simpa using hx, rfl⟩))
  | _ => rfl

theorem Env.wants (E : Env P call ops base F S V W C M s0 fr0) (down : ∀ k o, X k = true → ops[k]? = some o → ∀ e ∈ o.after, Region.binds .any e = true → X e.on = true) {i : Nat} {oi : Oper} (hi : ops[i]? = some oi) (hX : X i = false)
    (hr : ∀ e ∈ oi.after, Region.binds .any e = true → X e.on = true) : awanted ops oi (frUp (dstOf ops) V fr0 X ops.size) = some (W i) := by
  rw [← (E.tr.want i oi (Nat.zero_le _) hi).1]
  unfold awanted
  split
  · rfl
  · rename_i j want hg
    split
    · rfl
    · rename_i d hd
      have : d ∈ oi.looksAt ops := List.mem_append_right _ (by rw [hg]; simp [hd])
      rw [E.looks down hi hX hr this]

/-- With operation i done too. -/
def also (X : Nat → Bool) (i : Nat) : Nat → Bool := fun k => if k = i then true else X k
@[simp] theorem also_same (X : Nat → Bool) (i : Nat) : also X i i = true := by simp [also]
theorem also_ne (X : Nat → Bool) {i k : Nat} (h : k ≠ i) : also X i k = X k := by simp [also, h]
theorem also_of {X : Nat → Bool} {i k : Nat} (h : X k = true) : also X i k = true := by unfold also; split <;> simp_all

theorem Env.frame_also (E : Env P call ops base F S V W C M s0 fr0) (down : ∀ k o, X k = true → ops[k]? = some o → ∀ e ∈ o.after, Region.binds .any e = true → X e.on = true) {i : Nat} {oi : Oper} (hi : ops[i]? = some oi) (hX : X i = false) :
    frUp (dstOf ops) V fr0 (also X i) ops.size = setf (frUp (dstOf ops) V fr0 X ops.size) oi.dst (V i) := by
  have hlt : i < ops.size := (Array.getElem?_eq_some_iff.1 hi).1
  have hdi : dstOf ops i = oi.dst := by simp [dstOf, hi]
  refine fr_ext (by simp) fun t ht => ?_
  simp only [length_frUp] at ht
  by_cases hd : oi.dst = some t
  · rw [frUp_last (i := i) (also_same X i) (hdi.trans hd) ht ops.size hlt, hd, getf_setf]
    · simp [ht]
    · intro k hik hk hXk
      rw [also_ne X (by omega)] at hXk
      have hok : ops[k]? = some ops[k] := Array.getElem?_eq_getElem hk
      have hdk : dstOf ops k = ops[k].dst := by simp [dstOf, hok]
      rw [hdk]
      rcases (E.facts hi).2 k _ hik hok with ⟨e, he, hb, rfl⟩ | hap
      · rw [down k _ hXk hok e he hb] at hX; cases hX
      · exact (Oper.apart_spec hap).2.1 t hd
  · rw [getf_setf_other hd]
    refine frUp_congr _ fun k hk hdk => also_ne X fun e => ?_
    subst e
    exact hd (hdi.symm.trans hdk)

/-- The cursor goes on past what is no hard operation to come. -/
theorem Mid.step (E : Env P call ops base F S V W C M s0 fr0) (h : Mid P ops base F S V W C s0 fr0 f0 g0 w0 ds X m f g a w) (hm : m < ops.size) (hnh : ¬ Is ops W .hard m) :
    Mid P ops base F S V W C s0 fr0 f0 g0 w0 ds X (m + 1) f g a w := by
  have ho : ops[m]? = some ops[m] := Array.getElem?_eq_getElem hm
  have hb : s0.size ≤ base + m := by rw [E.base]; omega
  -- where the store stays
  have stay : S (m + 1) = S m → (Is ops W .fresh m → False) → (∀ o, ops[m]? = some o → W m = true → isRead o.op → aread P o.op (F m) (S m) = some (V m)) → Mid P ops base F S V W C s0 fr0 f0 g0 w0 ds X (m + 1) f g a w := by
    intro e nf rdm
    refine { h with inj := by rw [e]; exact h.inj, keep := by rw [e]; exact h.keep, mle := hm, done := ?_, todo := fun i hi => h.todo i (by omega), early := ?_, unl := ?_, sz := (by rw [e]; exact h.sz), dead := ?_, rd := ?_ }
    · intro i hi hh
      rcases Nat.lt_or_ge i m with h1 | h1
      · exact h.done i h1 hh
      · have : i = m := by omega
        subst this; exact (hnh hh).elim
    · intro i p hf hi hp
      obtain ⟨h1, h2, h3, h4, h5⟩ := h.early i p hf (by omega) hp
      exact ⟨h1, h2, h3, by rw [e]; exact h4, fun j q hj hmj => h5 j q hj (by omega)⟩
    · intro i hf hX hi
      rw [e]
      rcases Nat.lt_or_ge i m with h1 | h1
      · exact h.unl i hf hX h1
      · have : i = m := by omega
        subst this; exact (nf hf).elim
    · intro i hi hlt; rw [e]; exact h.dead i (by omega) hlt
    · intro i o ho' hw hr hX hi
      rw [e]
      rcases Nat.lt_or_ge i m with h1 | h1
      · exact h.rd i o ho' hw hr hX h1
      · have : i = m := by omega
        subst this; exact rdm o ho' hw hr
  cases hW : W m with
  | false => exact stay (E.tr.idle m _ (Nat.zero_le _) ho hW).2 (fun ⟨_, _, h, _⟩ => by rw [hW] at h; cases h) (fun _ _ h => by rw [hW] at h; cases h)
  | true =>
    rcases E.tr.step m _ (Nat.zero_le _) ho hW with ⟨h1, _, h3⟩ | ⟨h1, h2, h3⟩ | ⟨h1, _, _, h3⟩ | ⟨h1, _⟩
    · refine stay h3 (fun k => ?_) (fun o ho' _ hr => ?_)
      · have := k.uniq ⟨_, ho, hW, h1⟩; cases this
      · rw [ho] at ho'; cases ho'
        rcases hr with hr | hr <;> rw [h1] at hr <;> cases hr
    · refine stay h3 (fun k => ?_) (fun o ho' _ hr => ?_)
      · rcases h1 with h1 | h1 <;> (have := k.uniq ⟨_, ho, hW, h1⟩; cases this)
      · rw [ho] at ho'; cases ho'; exact h2
    · have isf : Is ops W .fresh m := ⟨_, ho, hW, h1⟩
      obtain ⟨kd, hkd, hkd2⟩ := h.dead m (Nat.le_refl _) isf.room
      have other : ∀ {i}, i ≠ m → ∀ x, ((S m).set (base + m) x).get (base + i) = (S m).get (base + i) := fun hi x => St.get_set_other _ _ _ _ (by omega)
      have hinj : Inj f g (S (m + 1)) w := by
        rw [h3]
        cases hX : X m with
        | false => exact h.inj.setFree (h.unm m isf hX)
        | true =>
          obtain ⟨p, hp⟩ := h.mapped m isf hX
          obtain ⟨h1, h2, ⟨cs', e, h4, h5⟩, h6, _⟩ := h.early m p isf (Nat.le_refl _) hp
          exact h.inj.revive hp h1 h2 h4 h5 h6
      refine { h with inj := hinj, keep := by rw [h3]; exact h.keep.setNew hb, mle := hm, done := ?_, todo := fun i hi => h.todo i (by omega), early := ?_, unl := ?_, sz := (by rw [h3]; simpa using h.sz), dead := ?_, rd := ?_ }
      · intro i hi hh
        rcases Nat.lt_or_ge i m with h1 | h1
        · exact h.done i h1 hh
        · have : i = m := by omega
          subst this; exact (hnh hh).elim
      · intro i p hf hi hp
        obtain ⟨h1, h2, h4, h5, h6⟩ := h.early i p hf (by omega) hp
        refine ⟨h1, h2, h4, fun b q k hbi hq hk hkd => ?_, fun j q hj hmj => h6 j q hj (by omega)⟩
        rw [h3] at hk
        by_cases hbm : base + m = b
        · subst hbm
          exact h6 m q isf (Nat.le_refl _) (by omega) hq
        · rw [St.get_set_other _ _ _ _ hbm] at hk
          exact h5 b q k hbi hq hk hkd
      · intro i hf hX hi
        rw [h3]
        by_cases him : i = m
        · subst him; exact St.get_set_same _ _ _ (St.get_lt hkd)
        · rw [other him]; exact h.unl i hf hX (by omega)
      · intro i hi hlt
        rw [h3, other (by omega)]
        exact h.dead i (by omega) hlt
      · intro i o ho' hw hr hX hi
        rw [h3]
        by_cases him : i = m
        · subst him
          rw [ho] at ho'; cases ho'
          rcases hr with hr | hr <;> rw [h1] at hr <;> cases hr
        · exact aread_fill hkd hkd2 (h.rd i o ho' hw hr hX (by omega))
    · exact (hnh ⟨_, ho, hW, h1⟩).elim

theorem Mid.advance (E : Env P call ops base F S V W C M s0 fr0) : ∀ (n m : Nat), m + n = ops.size → Mid P ops base F S V W C s0 fr0 f0 g0 w0 ds X m f g a w →
    ∃ m', Mid P ops base F S V W C s0 fr0 f0 g0 w0 ds X m' f g a w ∧ (m' = ops.size ∨ Is ops W .hard m')
  | 0, m, hn, h => ⟨m, h, .inl hn⟩
  | n + 1, m, hn, h => by
    by_cases hh : Is ops W .hard m
    · exact ⟨m, h, .inr hh⟩
    · exact Mid.advance E n (m + 1) (by omega) (h.step E (by omega) hh)

theorem also_down (down : ∀ k o, X k = true → ops[k]? = some o → ∀ e ∈ o.after, Region.binds .any e = true → X e.on = true) {i : Nat} {oi : Oper} (hi : ops[i]? = some oi)
    (hr : ∀ e ∈ oi.after, Region.binds .any e = true → X e.on = true) : ∀ k o, also X i k = true → ops[k]? = some o → ∀ e ∈ o.after, Region.binds .any e = true → also X i e.on = true := by
  intro k o hk ho e he hb
  by_cases hki : k = i
  · subst hki; rw [hi] at ho; cases ho; exact also_of (hr e he hb)
  · rw [also_ne X hki] at hk; exact also_of (down k o hk ho e he hb)

theorem put_defs (a : Act) (d : Option Tmp) (v : Value) : (a.put d v).defers = a.defers := by cases d <;> rfl

/-- An operation that leaves the heap. -/
theorem Mid.listed (E : Env P call ops base F S V W C M s0 fr0) (h : Mid P ops base F S V W C s0 fr0 f0 g0 w0 ds X m f g a w) {i : Nat} {oi : Oper} (hi : ops[i]? = some oi) (hX : X i = false)
    (hr : ∀ e ∈ oi.after, Region.binds .any e = true → X e.on = true) (nh : ¬ Is ops W .hard i) (nf : ¬ Is ops W .fresh i) {v' : Value} (hv : VRel f g (V i) v') : Mid P ops base F S V W C s0 fr0 f0 g0 w0 ds (also X i) m f g (a.put oi.dst v') w :=
  have ne1 : ∀ {k}, Is ops W .hard k → k ≠ i := fun hk e => nh (e ▸ hk)
  have ne2 : ∀ {k}, Is ops W .fresh k → k ≠ i := fun hk e => nf (e ▸ hk)
  { h with
    fr := by rw [E.frame_also h.down hi hX]; exact rel_put h.fr _ hv
    down := also_down h.down hi hr
    done := fun k hk hh => also_of (h.done k hk hh)
    todo := fun k hk hh => by rw [also_ne X (ne1 hh)]; exact h.todo k hk hh
    mapped := fun k hk hh => h.mapped k hk (by rw [also_ne X (ne2 hk)] at hh; exact hh)
    unm := fun k hk hh => h.unm k hk (by rw [also_ne X (ne2 hk)] at hh; exact hh)
    unl := fun k hk hh => h.unl k hk (by rw [also_ne X (ne2 hk)] at hh; exact hh)
    rd := fun k o ho hw hrd hh hkm => h.rd k o ho hw hrd (by
      by_cases e : k = i
      · subst e; simp at hh
      · rw [also_ne X e] at hh; exact hh) hkm
    defs := by rw [put_defs]; exact h.defs }

/-- An operation that makes a block. -/
theorem Mid.freshed (E : Env P call ops base F S V W C M s0 fr0) (h : Mid P ops base F S V W C s0 fr0 f0 g0 w0 ds X m f g a w) {i : Nat} {oi : Oper} (hi : ops[i]? = some oi) (hX : X i = false)
    (hr : ∀ e ∈ oi.after, Region.binds .any e = true → X e.on = true) (hf : Is ops W .fresh i) {cs' : List Value} {e : TypeId} (hcs : VsRel f g (C i) cs') {v' : Value}
    (hv : VRel (put f (base + i) ⟨w.heap.size, 0, false, 0, 0⟩) g (V i) v') :
    Mid P ops base F S V W C s0 fr0 f0 g0 w0 ds (also X i) m (put f (base + i) ⟨w.heap.size, 0, false, 0, 0⟩) g (a.put oi.dst v') (w.alloc (.cells cs'.toArray e)) := by
  have hnone := h.unm i hf hX
  have he : Ext f (put f (base + i) ⟨w.heap.size, 0, false, 0, 0⟩) := ext_put _ hnone
  have hilt := hf.lt
  have ne1 : ∀ {k}, Is ops W .hard k → k ≠ i := fun hk e => by subst e; have := hk.uniq hf; cases this
  have hb : s0.size ≤ base + i := by rw [E.base]; omega
  obtain ⟨k, hk, hkd⟩ : ∃ k, (S m).get (base + i) = some k ∧ (k.mode ≠ .dead → k = ⟨C i, .rw⟩) := by
    rcases Nat.lt_or_ge i m with h1 | h1
    · exact ⟨_, h.unl i hf hX h1, fun _ => rfl⟩
    · obtain ⟨k, hk, hd⟩ := h.dead i h1 hf.room
      exact ⟨k, hk, fun e => (e hd).elim⟩
  refine { h with
    fr := by rw [E.frame_also h.down hi hX]; exact rel_put (h.fr.mono he (ext_refl _)) _ hv
    inj := h.inj.map (St.get_lt hk) hnone hk hkd hcs rfl rfl rfl
    keep := h.keep.map hb hnone rfl
    down := also_down h.down hi hr
    done := fun k hk hh => also_of (h.done k hk hh)
    todo := fun k hk hh => by rw [also_ne X (ne1 hh)]; exact h.todo k hk hh
    mapped := ?_, early := ?_, unm := ?_, unl := ?_, rd := ?_, defs := by rw [put_defs]; exact h.defs }
  · intro j hj hXj
    by_cases e : j = i
    · subst e; exact ⟨_, put_same _ _ _⟩
    · rw [also_ne X e] at hXj
      obtain ⟨p, hp⟩ := h.mapped j hj hXj
      exact ⟨p, he _ _ hp⟩
  · intro j p hj hmj hp
    by_cases e : j = i
    · subst e
      rw [put_same] at hp; cases hp
      refine ⟨rfl, rfl, ⟨cs'.toArray, _, heap_alloc_eq _ _, by simpa using hcs.mono he (ext_refl _)⟩, ?_, ?_⟩
      · intro b q kb hbj hq hkb hkbd
        rw [put_other f _ hbj] at hq
        have := (h.inj.blk b q kb hq hkb hkbd).lt
        show q.block ≠ w.heap.size
        omega
      · intro j' q hj' hmj' hjj hq
        rw [put_other f _ (by omega)] at hq
        obtain ⟨_, _, ⟨cs2, e2, h4, _⟩, _⟩ := h.early j' q hj' hmj' hq
        have := (Array.getElem?_eq_some_iff.1 h4).1
        show q.block ≠ w.heap.size
        omega
    · rw [put_other f _ (by omega)] at hp
      obtain ⟨h1, h2, ⟨cs2, e2, h4, h5⟩, h6, h7⟩ := h.early j p hj hmj hp
      have hlt := (Array.getElem?_eq_some_iff.1 h4).1
      refine ⟨h1, h2, ⟨cs2, e2, (by rw [heap_alloc_lt _ _ hlt]; exact h4), h5.mono he (ext_refl _)⟩, ?_, ?_⟩
      · intro b q kb hbj hq hkb hkbd
        by_cases hbi : b = base + i
        · subst hbi
          rw [put_same] at hq; cases hq
          show w.heap.size ≠ p.block
          omega
        · rw [put_other f _ hbi] at hq
          exact h6 b q kb hbj hq hkb hkbd
      · intro j' q hj' hmj' hjj hq
        by_cases hji : j' = i
        · subst hji
          rw [put_same] at hq; cases hq
          show w.heap.size ≠ p.block
          omega
        · rw [put_other f _ (by omega)] at hq
          exact h7 j' q hj' hmj' hjj hq
  · intro j hj hXj
    by_cases e : j = i
    · subst e; simp at hXj
    · rw [also_ne X e] at hXj
      rw [put_other f _ (by omega)]
      exact h.unm j hj hXj
  · intro j hj hXj hjm
    by_cases e : j = i
    · subst e; simp at hXj
    · rw [also_ne X e] at hXj
      exact h.unl j hj hXj hjm
  · intro j o ho hw hrd hXj hjm
    by_cases e : j = i
    · subst e; simp at hXj
    · rw [also_ne X e] at hXj
      exact h.rd j o ho hw hrd hXj hjm

/-- The hard operation that is next. -/
theorem Mid.hardened (E : Env P call ops base F S V W C M s0 fr0) (h : Mid P ops base F S V W C s0 fr0 f0 g0 w0 ds X m f g a w) {oi : Oper} (hi : ops[m]? = some oi) (hX : X m = false)
    (hr : ∀ e ∈ oi.after, Region.binds .any e = true → X e.on = true) (hh : Is ops W .hard m) {f' : FMap} {g' : LMap} {w' : World} (k : Keep f g (S m) w f' g' (S (m + 1)) w') (hi' : Inj f' g' (S (m + 1)) w') {v' : Value} (hv : VRel f' g' (V m) v') :
    Mid P ops base F S V W C s0 fr0 f0 g0 w0 ds (also X m) (m + 1) f' g' (a.put oi.dst v') w' := by
  have ne2 : ∀ {k}, Is ops W .fresh k → k ≠ m := fun hk e => by subst e; have := hk.uniq hh; cases this
  have back : ∀ {i}, Is ops W .fresh i → ∀ {p}, f' (base + i) = some p → f (base + i) = some p := fun {i} hlt {p} hp => k.of _ p (h.sz i hlt.room) hp
  have mlt := hh.lt
  refine { h with
    fr := by rw [E.frame_also h.down hi hX]; exact rel_put (h.fr.mono k.ef k.eg) _ hv
    inj := hi'
    keep := h.keep.trans k
    mle := mlt
    down := also_down h.down hi hr
    done := ?_
    todo := fun j hj hhj => by rw [also_ne X (by omega)]; exact h.todo j (by omega) hhj
    mapped := ?_, early := ?_, unm := ?_, unl := ?_, sz := fun j hj => Nat.lt_of_lt_of_le (h.sz j hj) k.size, dead := ?_, rd := ?_, defs := by rw [put_defs]; exact h.defs }
  · intro j hj hhj
    by_cases e : j = m
    · subst e; simp
    · exact also_of (h.done j (by omega) hhj)
  · intro j hj hXj
    rw [also_ne X (ne2 hj)] at hXj
    obtain ⟨p, hp⟩ := h.mapped j hj hXj
    exact ⟨p, k.ef _ _ hp⟩
  · intro j p hj hmj hp
    have hp0 := back hj hp
    obtain ⟨h1, h2, ⟨cs2, e2, h4, h5⟩, h6, h7⟩ := h.early j p hj (by omega) hp0
    have hlt := (Array.getElem?_eq_some_iff.1 h4).1
    obtain ⟨kj, hkj, hkjd⟩ := h.dead j (by omega) hj.room
    refine ⟨h1, h2, ⟨cs2, e2, ?_, h5.mono k.ef k.eg⟩, ?_, fun j' q hj' hmj' hjj hq => h7 j' q hj' (by omega) hjj (back hj' hq)⟩
    · rw [k.keepC p.block hlt ?_ ?_]
      · exact h4
      · intro b q kb hb hkb hkw
        by_cases hbj : b = base + j
        · subst hbj
          rw [hkj] at hkb; cases hkb
          rw [hkjd] at hkw; cases hkw
        · exact h6 b q kb hbj hb hkb (fun e => by rw [e] at hkw; cases hkw)
      · intro l hl
        obtain ⟨r, _, hr⟩ := h.inj.loop l p.block hl
        obtain ⟨t, fn, d, h8, _⟩ := hr
        rw [h4] at h8; cases h8
    · intro b q kb hbj hq hkb hkbd
      cases hfb : f b with
      | some q0 =>
        have : q0 = q := by have := k.ef b q0 hfb; rw [hq] at this; exact (Option.some.inj this).symm
        subst this
        have hbs := h.inj.dom b q0 hfb
        obtain ⟨k0, hk0⟩ := St.get_some (S m) b hbs
        exact h6 b q0 k0 hbj hfb hk0 (fun e => hkbd (k.deads b k0 kb hbs hk0 hkb e))
      | none =>
        rcases k.newf b q hq hfb with h8 | ⟨c, q', kc, h8, h9, h10, h11⟩
        · omega
        · rw [← h11]
          refine h6 c q' kc (fun e => ?_) h8 h9 (fun e => by rw [e] at h10; cases h10)
          subst e
          rw [hkj] at h9; cases h9
          rw [hkjd] at h10; cases h10
  · intro j hj hXj
    rw [also_ne X (ne2 hj)] at hXj
    cases hf' : f' (base + j) with
    | none => rfl
    | some p => have := back hj hf'; rw [h.unm j hj hXj] at this; cases this
  · intro j hj hXj hjm
    have hne := ne2 hj
    rw [also_ne X hne] at hXj
    have hg := h.unl j hj hXj (by omega)
    rw [k.keepA _ (St.get_lt hg) (h.unm j hj hXj)]
    exact hg
  · intro j hj hlt
    obtain ⟨kj, hkj, hkjd⟩ := h.dead j (by omega) hlt
    have hlt' := St.get_lt hkj
    obtain ⟨k', hk'⟩ := St.get_some (S (m + 1)) (base + j) (Nat.lt_of_lt_of_le hlt' k.size)
    exact ⟨k', hk', k.deads _ _ _ hlt' hkj hk' hkjd⟩
  · intro j o ho hw hrd hXj hjm
    have hjm' : j ≠ m := fun e => by subst e; simp at hXj
    rw [also_ne X hjm'] at hXj
    obtain ⟨om, hom, hWm, hcm⟩ := hh
    rw [hi] at hom; cases hom
    rcases E.tr.hr m oi (Nat.zero_le _) hi hWm hcm j o (Nat.zero_le _) (by omega) ho hw hrd with h1 | h1
    · have : X j = true := TC.mem (X := fun j => X j = true) h.down (before_spec h1) (fun o ho => by rw [hi] at ho; cases ho; exact hr)
      rw [hXj] at this; cases this
    · exact h1

def unlisted (listed : Array Bool) : Nat := (listed.toList.filter fun b => !b).length

theorem unlisted_set {listed : Array Bool} {i : Nat} (h : listed.getD i true = false) : unlisted (listed.setIfInBounds i true) + 1 = unlisted listed := by
  unfold unlisted
  have hi : i < listed.size := by
    rcases Nat.lt_or_ge i listed.size with h' | h'
    · exact h'
    · simp [Array.getElem?_eq_none h'] at h
  have hf : listed.toList[i]? = some false := by simp [hi] at h ⊢; exact h
  rw [Array.toList_setIfInBounds]
  generalize listed.toList = l at hf
  clear h hi
  induction l generalizing i with
  | nil => simp at hf
  | cons b l ih =>
    cases i with
    | zero => simp at hf; subst hf; simp
    | succ i =>
      simp only [List.getElem?_cons_succ] at hf
      have := ih hf
      cases b <;> simp [List.set_cons_succ] <;> omega

theorem unlisted_zero {listed : Array Bool} {i : Nat} (h : unlisted listed = 0) : listed.getD i true = true := by
  unfold unlisted at h
  rw [List.length_eq_zero_iff, List.filter_eq_nil_iff] at h
  rcases Nat.lt_or_ge i listed.size with h' | h'
  · have := h (listed[i]) (by simp)
    simpa [h'] using this
  · simp [Array.getElem?_eq_none h']

/-- Nothing is ready: everything is listed. -/
theorem Env.all (E : Env P call ops base F S V W C M s0 fr0) {listed : Array Bool} (hsz : listed.size = ops.size) (hr : Region.ready .any ops listed = []) : ∀ i, i < ops.size → listed.getD i false = true := by
  intro i
  induction i using Nat.strongRecOn with
  | _ i ih =>
    intro hi
    cases hc : listed.getD i false with
    | true => rfl
    | false =>
      have ho : ops[i]? = some ops[i] := Array.getElem?_eq_getElem hi
      have : i ∈ Region.ready .any ops listed := by
        rw [mem_ready]
        refine ⟨?_, _, ho, fun e he hb => ?_⟩
        · have h' : i < listed.size := by omega
          simpa [h'] using hc
        · have := (E.facts ho).1 e he hb
          exact ih e.on this (by omega)
      rw [hr] at this; cases this

theorem Mid.finish (E : Env P call ops base F S V W C M s0 fr0) (h : Mid P ops base F S V W C s0 fr0 f0 g0 w0 ds X m f g a w) (hX : ∀ i, i < ops.size → X i = true) :
    CodePost f0 g0 s0 w0 (F ops.size) (S ops.size) a w := by
  obtain ⟨m', h', hm⟩ := h.advance E (ops.size - m) m (by have := h.mle; omega)
  have : m' = ops.size := by
    rcases hm with e | e
    · exact e
    · have := h'.todo m' (Nat.le_refl _) e
      rw [hX m' e.lt] at this; cases this
  subst this
  refine ⟨f, g, h'.keep, h'.inj, ?_⟩
  have : frUp (dstOf ops) V fr0 X ops.size = F ops.size := by
    rw [E.frame _ (Nat.le_refl _)]
    refine fr_ext (by simp) fun t _ => frUp_congr _ fun k hk _ => hX k hk
  rw [← this]
  exact h'.fr

theorem Mid.run (E : Env P call ops base F S V W C M s0 fr0) (hc : CallSim P call) (ro : Option Nat) {Q : Exit → Act → World → Prop} (hQ : ∀ a w, CodePost f0 g0 s0 w0 (F ops.size) (S ops.size) a w → a.defers = ds → Q .normal a w) :
    ∀ (fuel : Nat) (listed : Array Bool) (m : Nat) (f : FMap) (g : LMap) (a : Act) (w : World), listed.size = ops.size → unlisted listed ≤ fuel → Mid P ops base F S V W C s0 fr0 f0 g0 w0 ds (fun i => listed.getD i false) m f g a w →
      wpAnyIn (fence ro) 0 P .any ops Q fuel listed a w
  | 0, listed, m, f, g, a, w, hsz, hu, h => by
    have hr : Region.ready .any ops listed = [] := by
      cases hr : Region.ready .any ops listed with
      | nil => rfl
      | cons i l =>
        have : i ∈ Region.ready .any ops listed := by rw [hr]; simp
        have := (mem_ready.1 this).1
        rw [unlisted_zero (by omega)] at this; cases this
    exact ⟨hr, hQ _ _ (h.finish E (E.all hsz hr)) h.defs⟩
  | fuel + 1, listed, m, f, g, a, w, hsz, hu, h => by
    refine ⟨fun hr => hQ _ _ (h.finish E (E.all hsz hr)) h.defs, fun i hri => ?_⟩
    obtain ⟨m, h, hm⟩ := h.advance E (ops.size - m) m (by have := h.mle; omega)
    obtain ⟨hli, oi, hoi, hr⟩ := mem_ready.1 hri
    have hlt : i < ops.size := (Array.getElem?_eq_some_iff.1 hoi).1
    have hX : listed.getD i false = false := by
      have h' : i < listed.size := by omega
      simpa [h'] using hli
    have hsz' : (listed.setIfInBounds i true).size = ops.size := by simp [hsz]
    have hu' : unlisted (listed.setIfInBounds i true) ≤ fuel := by have := unlisted_set hli; omega
    have hal : (fun k => (listed.setIfInBounds i true).getD k false) = also (fun k => listed.getD k false) i := by
      funext k
      by_cases e : k = i
      · subst e
        have h' : k < listed.size := by omega
        simp [h']
      · rw [also_ne _ e, getD_set_ne false (Ne.symm e)]
    have next : ∀ {m f g a w}, Mid P ops base F S V W C s0 fr0 f0 g0 w0 ds (also (fun k => listed.getD k false) i) m f g a w → wpAnyIn (fence ro) 0 P .any ops Q fuel (listed.setIfInBounds i true) a w := fun {m f g a w} h' =>
      Mid.run E hc ro hQ fuel _ m f g a w hsz' hu' (by rw [hal]; exact h')
    have hev := E.ops_ev h.down hoi hX hr
    have hρ := fun x => rel_eval h.fr x
    have hwant := wanted_rel h.fr (E.wants h.down hoi hX hr)
    unfold wpOpIn
    simp only [hoi, hwant]
    have notfresh : ∀ {c}, classOf oi.op = c → c ≠ .fresh → ¬ Is ops W .fresh i := fun e hne hf => by
      obtain ⟨o, ho, _, e'⟩ := hf
      rw [hoi] at ho; cases ho
      exact hne (e.symm.trans e')
    have nothard : ∀ {c}, classOf oi.op = c → c ≠ .hard → ¬ Is ops W .hard i := fun e hne hf => by
      obtain ⟨o, ho, _, e'⟩ := hf
      rw [hoi] at ho; cases ho
      exact hne (e.symm.trans e')
    -- what waits for the hard operation that is next cannot be ready
    have behind : ∀ {j}, Is ops W .hard j → m ≤ j → ordered (Region.before ops) j i = true → False := fun {j} hj hmj hord => by
      have : (fun k => listed.getD k false) j = true := TC.mem (X := fun k => (fun k => listed.getD k false) k = true) h.down (before_spec hord) (fun o ho => by rw [hoi] at ho; cases ho; exact hr)
      have h5 := h.todo j hmj hj
      exact Bool.false_ne_true (h5.symm.trans this)
    cases hW : W i with
    | false =>
      simp only [Bool.false_eq_true, if_false]
      have hidle := (E.tr.idle i oi (Nat.zero_le _) hoi hW).1
      refine ⟨fun _ _ => trivial, next (h.listed E hoi hX hr (fun ⟨_, _, e, _⟩ => by rw [hW] at e; cases e) (fun ⟨_, _, e, _⟩ => by rw [hW] at e; cases e) (by rw [hidle]; exact VRel.skip))⟩
    | true =>
      simp only [if_true]
      rcases E.tr.step i oi (Nat.zero_le _) hoi hW with ⟨h1, h2, _⟩ | ⟨h1, h2, _⟩ | ⟨h1, h2, h3, _⟩ | ⟨h1, h2⟩
      · rw [← aquiet_congr hev] at h2
        obtain ⟨v', hv, hrun⟩ := quiet_run hρ h2
        exact upon_of_run (quiet_not_defer h2) (hrun w) (next (h.listed E hoi hX hr (nothard h1 (by simp)) (notfresh h1 (by simp)) hv))
      · have hread : aread P oi.op (F i) (S m) = some (V i) := by
          rcases Nat.lt_or_ge i m with him | him
          · exact h.rd i oi hoi hW h1 hX him
          · have hm' : Is ops W .hard m := by
              rcases hm with e | e
              · omega
              · exact e
            obtain ⟨om, hom, hWm, hcm⟩ := hm'
            have hne : m ≠ i := fun e => by
              subst e; rw [hoi] at hom; cases hom
              rcases h1 with h1 | h1 <;> rw [h1] at hcm <;> cases hcm
            rcases E.tr.rh i oi (Nat.zero_le _) hoi hW h1 m om (Nat.zero_le _) (by omega) hom hWm hcm with h4 | h4
            · exact (behind ⟨om, hom, hWm, hcm⟩ (Nat.le_refl _) h4).elim
            · exact h4
        rw [← aread_congr hev] at hread
        obtain ⟨v', hv, hrun⟩ := read_run (P := P) h.inj hρ hread
        exact upon_of_run (read_not_defer hread) hrun (next (h.listed E hoi hX hr (fun hf => by
          obtain ⟨o, ho, _, e'⟩ := hf
          rw [hoi] at ho; cases ho
          rcases h1 with h1 | h1 <;> rw [h1] at e' <;> cases e') (fun hf => by
          obtain ⟨o, ho, _, e'⟩ := hf
          rw [hoi] at ho; cases ho
          rcases h1 with h1 | h1 <;> rw [h1] at e' <;> cases e') hv))
      · rw [← afresh_congr hev] at h2
        obtain ⟨cs', e, mk', hcs, hrun, hmk⟩ := fresh_run hρ h2
        refine upon_of_run (fresh_not_defer h2) (hrun w) (next (h.freshed E hoi hX hr ⟨oi, hoi, hW, h1⟩ hcs ?_))
        rw [h3]
        exact hmk _ _ _ _ (put_same _ _ _) rfl rfl
      · have hih : Is ops W .hard i := ⟨oi, hoi, hW, h1⟩
        have him : i = m := by
          rcases Nat.lt_trichotomy i m with h4 | h4 | h4
          · have := h.done i h4 hih
            simp only [hX] at this; cases this
          · exact h4
          · have hm' : Is ops W .hard m := by
              rcases hm with e | e
              · omega
              · exact e
            obtain ⟨om, hom, hWm, hcm⟩ := hm'
            exact (behind ⟨om, hom, hWm, hcm⟩ (Nat.le_refl _) (E.tr.hh i oi (Nat.zero_le _) hoi hW h1 m om (Nat.zero_le _) h4 hom hWm hcm)).elim
        subst him
        rw [← ahard_congr hev] at h2
        refine hard_sim hc h.fr h.inj h2 ?_
        rintro v' w' ⟨f', g', k', i', r'⟩
        exact next (h.hardened E hoi hX hr hih k' i' r')

theorem get_reserve : ∀ (n : Nat) (s : St) (b : Nat), (b < s.size → (reserve s n).get b = s.get b) ∧ (s.size ≤ b → b < s.size + n → (reserve s n).get b = some ⟨[], .dead⟩)
  | 0, s, b => ⟨fun _ => rfl, fun h1 h2 => by omega⟩
  | n + 1, s, b => by
    obtain ⟨h1, h2⟩ := get_reserve n (s.push ⟨[], .dead⟩) b
    simp only [St.size_push] at h1 h2
    refine ⟨fun h => ?_, fun h3 h4 => ?_⟩
    · show (reserve (s.push _) n).get b = _
      rw [h1 (by omega), St.get_push_lt _ _ _ h]
    · show (reserve (s.push _) n).get b = _
      by_cases e : b = s.size
      · subst e; rw [h1 (by omega)]; exact St.get_push_new _ _
      · exact h2 (by omega) (by omega)

theorem size_reserve : ∀ (n : Nat) (s : St), (reserve s n).size = s.size + n
  | 0, s => rfl
  | n + 1, s => by show (reserve (s.push _) n).size = _; rw [size_reserve n]; simp; omega

theorem loops_reserve : ∀ (n : Nat) (s : St), (reserve s n).loops = s.loops
  | 0, s => rfl
  | n + 1, s => by show (reserve (s.push _) n).loops = _; rw [loops_reserve n]; rfl

theorem loop_reserve (n : Nat) (s : St) (l : Nat) : (reserve s n).loop l = s.loop l := by
  unfold St.loop St.nloops; rw [loops_reserve]

theorem nloops_reserve (n : Nat) (s : St) : (reserve s n).nloops = s.nloops := by
  unfold St.nloops; rw [loops_reserve]

theorem Inj.reserve (h : Inj f g s0 w) (n : Nat) : Inj f g (reserve s0 n) w ∧ Keep f g s0 w f g (reserve s0 n) w := by
  have old : ∀ {b}, b < s0.size → (Abs.reserve s0 n).get b = s0.get b := fun hb => (get_reserve n s0 _).1 hb
  constructor
  · refine ⟨fun b p hb => by rw [size_reserve]; have := h.dom b p hb; omega, ?_, ?_, fun l m hl => by rw [loop_reserve]; exact h.loop l m hl, h.lsep⟩
    · intro b p k hb hk hd
      rw [old (h.dom b p hb)] at hk
      exact h.blk b p k hb hk hd
    · intro b c p q k j hbc hb hc hk hj
      rw [old (h.dom b p hb)] at hk
      rw [old (h.dom c q hc)] at hj
      exact h.sep b c p q k j hbc hb hc hk hj
  · exact { h.keep with
      size := by rw [size_reserve]; omega
      nloops := by rw [nloops_reserve]; exact Nat.le_refl _
      keepA := fun b hb _ => old hb
      keepL := fun l _ _ => loop_reserve _ _ _
      deads := fun b k k' hb h1 h2 hd => by rw [old hb, h1] at h2; cases h2; exact hd
      modes := fun b k' hb h2 hw => by rw [old hb] at h2; exact ⟨k', h2, hw⟩ }

theorem draw_sim {s s' : St} {fr fr' : Fr} (hmx : P.follows .mixedOrders = true) (hc : CallSim P call) {id : Nat} (hlex : Region.lexB .any ops = true) (h : drawOps P call ops s.size 0 ops.toList fr (reserve s (room ops.toList)) [] [] = some (fr', s'))
    (hfr : VsRel f g fr a.tmps.toList) (hi : Inj f g s w) {N : Nat} {ro : Option Nat} (hm : Marks N w a.defers) (hro : ro.isSome = true → a.defers = []) :
    (Code.region id ops true).wpIn (fence ro) 0 P (CPost f g s w N ro .normal fr' s') a w := by
  refine wpIn_region_any hmx ?_
  obtain ⟨F, S, V, W, C, M, e1, e2, e3, e4, tr⟩ := trace_of ops s.size ops.toList 0 fr fr' (Abs.reserve s (room ops.toList)) s' [] [] rfl h
  simp only [Nat.zero_add, Array.length_toList] at e3 e4
  have E : Env P call ops s.size F S V W C M s fr := ⟨tr, hlex, e1, rfl⟩
  have hi1 : Inj f g s { w with drawn := w.drawn + 1 } := hi.congr rfl
  obtain ⟨ir, kr⟩ := hi1.reserve (room ops.toList)
  have none_of : ∀ {b}, s.size ≤ b → f b = none := fun {b} hb => by
    cases hf : f b with
    | none => rfl
    | some p => have := hi.dom b p hf; omega
  refine Mid.run (f0 := f) (g0 := g) (w0 := w) (ds := a.defers) E hc ro ?_ ops.size (Array.replicate ops.size false) 0 f g a _ (by simp) (by simp [unlisted]) ?_
  · intro a' w' hp hd
    rw [e3, e4] at hp
    obtain ⟨f', g', k1, i1, r1⟩ := hp
    exact ⟨rfl, ⟨f', g', k1, i1, r1⟩, by rw [hd]; exact hm.keep k1 hi, fun h => by rw [hd]; exact hro h⟩
  · have nx : ∀ i, (Array.replicate ops.size false).getD i false = false := fun i => by
      by_cases hi : i < ops.size <;> simp [Array.getD, hi]
    have hfr0 : frUp (dstOf ops) V fr (fun i => (Array.replicate ops.size false).getD i false) ops.size = fr := by
      rw [frUp_beyond 0 ops.size (Nat.zero_le _) (fun k _ _ => nx k)]
      rfl
    refine ⟨by rw [hfr0]; exact hfr, by rw [e2]; exact ir, ?_, Nat.zero_le _, ?_, ?_, ?_, ?_, ?_, ?_, ?_, ?_, ?_, ?_, rfl⟩
    · rw [e2]; exact kr.congr_left rfl ⟨rfl, rfl, rfl⟩
    · intro k o hk; rw [nx] at hk; cases hk
    · intro i hi; omega
    · intro i _ _; exact nx i
    · intro i _ hk; rw [nx] at hk; cases hk
    · intro i p _ _ hf; rw [none_of (by omega)] at hf; cases hf
    · intro i _ _; exact none_of (by omega)
    · intro i _ _ hi; omega
    · intro i hlt; rw [e2, size_reserve]; omega
    · intro i _ hlt
      exact ⟨_, by rw [e2]; exact (get_reserve (room ops.toList) s (s.size + i)).2 (by omega) (by omega), rfl⟩
    · intro i o _ _ _ _ hi; omega

end
end Go.Abs
