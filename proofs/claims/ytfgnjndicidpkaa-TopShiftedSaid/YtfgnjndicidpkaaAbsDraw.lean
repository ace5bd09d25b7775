/- A region whose order is drawn: the text's order, and why every order comes to the same. -/
import Derived.Test.YtfgnjndicidpkaaAbsOrder
namespace Go.Abs
section
variable {P : Program} {f : FMap} {g : LMap} {s s' : St} {w : World} {fr : Fr} {call : Value → List Value → St → Option (Value × St)}

theorem ssame_eq {u v : Value} (h : ssame u v = true) : u = v := by
  unfold ssame at h
  split at h <;> simp_all

theorem sames_eq : ∀ {l m : List Value}, sames l m = true → l = m
  | [], [], _ => rfl
  | a :: l, b :: m, h => by
    simp only [sames, Bool.and_eq_true] at h
    rw [ssame_eq h.1, sames_eq h.2]
  | [], _ :: _, h => by simp [sames] at h
  | _ :: _, [], h => by simp [sames] at h

theorem same_eq {u v : Value} (h : same u v = true) : u = v := by
  unfold same at h
  split at h
  · congr 1
    apply Array.ext'
    exact sames_eq h
  · exact ssame_eq h

theorem stable_read {o : Op} {v : Value} (h : stable P s o fr v = true) : aread P o fr s = some v := by
  unfold stable at h
  split at h
  · rename_i u hu
    rw [hu, same_eq h]
  · cases h

def isRead (o : Op) : Prop := classOf o = .load ∨ classOf o = .slice

/-- What one operation of the text's order does. -/
def StepOK (P : Program) (call : Value → List Value → St → Option (Value × St)) (base i : Nat) (o : Op) (F : Fr) (S S' : St) (V : Value) (C : List Value) (M : Nat → Value) : Prop :=
  (classOf o = .quiet ∧ aquiet P o F = some V ∧ S' = S) ∨ (isRead o ∧ aread P o F S = some V ∧ S' = S) ∨
  (classOf o = .fresh ∧ afresh P o F = some (C, M) ∧ V = M (base + i) ∧ S' = S.set (base + i) ⟨C, .rw⟩) ∨ (classOf o = .hard ∧ ahard P call o F S = some (V, S'))

structure Tr (P : Program) (call : Value → List Value → St → Option (Value × St)) (ops : Array Oper) (base i0 : Nat) (F : Nat → Fr) (S : Nat → St) (V : Nat → Value) (W : Nat → Bool) (C : Nat → List Value) (M : Nat → Nat → Value)
    (hist : List (Nat × St)) (reads : List (Nat × Op × Fr × Value)) : Prop where
  want : ∀ i o, i0 ≤ i → ops[i]? = some o → awanted ops o (F i) = some (W i) ∧ F (i + 1) = setf (F i) o.dst (V i)
  idle : ∀ i o, i0 ≤ i → ops[i]? = some o → W i = false → V i = skipped ∧ S (i + 1) = S i
  step : ∀ i o, i0 ≤ i → ops[i]? = some o → W i = true → StepOK P call base i o.op (F i) (S i) (S (i + 1)) (V i) (C i) (M i)
  rh0 : ∀ i o, i0 ≤ i → ops[i]? = some o → W i = true → isRead o.op → ∀ h ∈ hist, ordered (Region.before ops) h.1 i = true ∨ aread P o.op (F i) h.2 = some (V i)
  rh : ∀ i o, i0 ≤ i → ops[i]? = some o → W i = true → isRead o.op → ∀ j oj, i0 ≤ j → j < i → ops[j]? = some oj → W j = true → classOf oj.op = .hard → ordered (Region.before ops) j i = true ∨ aread P o.op (F i) (S j) = some (V i)
  hh0 : ∀ i o, i0 ≤ i → ops[i]? = some o → W i = true → classOf o.op = .hard → ∀ h ∈ hist, ordered (Region.before ops) h.1 i = true
  hh : ∀ i o, i0 ≤ i → ops[i]? = some o → W i = true → classOf o.op = .hard → ∀ j oj, i0 ≤ j → j < i → ops[j]? = some oj → W j = true → classOf oj.op = .hard → ordered (Region.before ops) j i = true
  hr0 : ∀ i o, i0 ≤ i → ops[i]? = some o → W i = true → classOf o.op = .hard → ∀ r ∈ reads, ordered (Region.before ops) r.1 i = true ∨ aread P r.2.1 r.2.2.1 (S (i + 1)) = some r.2.2.2
  hr : ∀ i o, i0 ≤ i → ops[i]? = some o → W i = true → classOf o.op = .hard → ∀ j oj, i0 ≤ j → j < i → ops[j]? = some oj → W j = true → isRead oj.op → ordered (Region.before ops) j i = true ∨ aread P oj.op (F j) (S (i + 1)) = some (V j)

def upd {α : Type} (f : Nat → α) (i : Nat) (x : α) : Nat → α := fun k => if k = i then x else f k
@[simp] theorem upd_same {α : Type} (f : Nat → α) (i : Nat) (x : α) : upd f i x i = x := by simp [upd]
theorem upd_ne {α : Type} (f : Nat → α) {i k : Nat} (x : α) (h : k ≠ i) : upd f i x k = f k := by simp [upd, h]

/-- One operation more in front. -/
theorem Tr.cons {ops : Array Oper} {base i0 : Nat} {F : Nat → Fr} {S : Nat → St} {V : Nat → Value} {W : Nat → Bool} {C : Nat → List Value} {M : Nat → Nat → Value} {hist hist' : List (Nat × St)} {reads reads' : List (Nat × Op × Fr × Value)}
    (h : Tr P call ops base (i0 + 1) F S V W C M hist' reads') {o : Oper} (ho : ops[i0]? = some o) {fr0 : Fr} {s0 : St} {v : Value} {b : Bool} {c : List Value} {m : Nat → Value}
    (hw : awanted ops o fr0 = some b) (hF : F (i0 + 1) = setf fr0 o.dst v) (hidle : b = false → v = skipped ∧ S (i0 + 1) = s0) (hstep : b = true → StepOK P call base i0 o.op fr0 s0 (S (i0 + 1)) v c m)
    (hh1 : ∀ x ∈ hist, x ∈ hist') (hr1 : ∀ x ∈ reads, x ∈ reads')
    (hh2 : b = true → classOf o.op = .hard → (i0, s0) ∈ hist') (hr2 : b = true → isRead o.op → (i0, o.op, fr0, v) ∈ reads')
    (hrh : b = true → isRead o.op → ∀ x ∈ hist, ordered (Region.before ops) x.1 i0 = true ∨ aread P o.op fr0 x.2 = some v)
    (hhh : b = true → classOf o.op = .hard → ∀ x ∈ hist, ordered (Region.before ops) x.1 i0 = true)
    (hhr : b = true → classOf o.op = .hard → ∀ r ∈ reads, ordered (Region.before ops) r.1 i0 = true ∨ aread P r.2.1 r.2.2.1 (S (i0 + 1)) = some r.2.2.2) :
    Tr P call ops base i0 (upd F i0 fr0) (upd S i0 s0) (upd V i0 v) (upd W i0 b) (upd C i0 c) (upd M i0 m) hist reads := by
  have split : ∀ i, i0 ≤ i → i = i0 ∨ (i0 + 1 ≤ i ∧ i ≠ i0) := fun i hi => by omega
  have n1 : ∀ {α : Type} (f : Nat → α) (x : α) (i : Nat), i0 ≤ i → upd f i0 x (i + 1) = f (i + 1) := fun f x i hi => upd_ne f x (by omega)
  constructor
  · intro i oi hi hoi
    rcases split i hi with rfl | ⟨h1, h2⟩
    · rw [ho] at hoi; cases hoi
      simp only [upd_same, n1 _ _ i hi]
      exact ⟨hw, hF⟩
    · simp only [upd_ne _ _ h2, n1 _ _ i hi]; exact h.want i oi h1 hoi
  · intro i oi hi hoi
    rcases split i hi with rfl | ⟨h1, h2⟩
    · simp only [upd_same, n1 _ _ i hi]; exact hidle
    · simp only [upd_ne _ _ h2, n1 _ _ i hi]; exact h.idle i oi h1 hoi
  · intro i oi hi hoi
    rcases split i hi with rfl | ⟨h1, h2⟩
    · rw [ho] at hoi; cases hoi
      simp only [upd_same, n1 _ _ i hi]; exact hstep
    · simp only [upd_ne _ _ h2, n1 _ _ i hi]; exact h.step i oi h1 hoi
  · intro i oi hi hoi
    rcases split i hi with rfl | ⟨h1, h2⟩
    · rw [ho] at hoi; cases hoi
      simp only [upd_same]; exact hrh
    · simp only [upd_ne _ _ h2]; exact fun a b x hx => h.rh0 i oi h1 hoi a b x (hh1 x hx)
  · intro i oi hi hoi a b j oj hj hji hoj
    rcases split i hi with rfl | ⟨h1, h2⟩
    · omega
    · simp only [upd_ne _ _ h2] at a ⊢
      rcases split j hj with rfl | ⟨h3, h4⟩
      · rw [ho] at hoj; cases hoj
        simp only [upd_same]
        exact fun c d => h.rh0 i oi h1 hoi a b _ (hh2 c d)
      · simp only [upd_ne _ _ h4]; exact h.rh i oi h1 hoi a b j oj h3 hji hoj
  · intro i oi hi hoi
    rcases split i hi with rfl | ⟨h1, h2⟩
    · rw [ho] at hoi; cases hoi
      simp only [upd_same]; exact hhh
    · simp only [upd_ne _ _ h2]; exact fun a b x hx => h.hh0 i oi h1 hoi a b x (hh1 x hx)
  · intro i oi hi hoi a b j oj hj hji hoj
    rcases split i hi with rfl | ⟨h1, h2⟩
    · omega
    · simp only [upd_ne _ _ h2] at a
      rcases split j hj with rfl | ⟨h3, h4⟩
      · rw [ho] at hoj; cases hoj
        simp only [upd_same]
        exact fun c d => h.hh0 i oi h1 hoi a b _ (hh2 c d)
      · simp only [upd_ne _ _ h4]; exact h.hh i oi h1 hoi a b j oj h3 hji hoj
  · intro i oi hi hoi
    rcases split i hi with rfl | ⟨h1, h2⟩
    · rw [ho] at hoi; cases hoi
      simp only [upd_same, n1 _ _ i hi]; exact hhr
    · simp only [upd_ne _ _ h2, n1 _ _ i hi]; exact fun a b r hr => h.hr0 i oi h1 hoi a b r (hr1 r hr)
  · intro i oi hi hoi a b j oj hj hji hoj
    rcases split i hi with rfl | ⟨h1, h2⟩
    · omega
    · simp only [upd_ne _ _ h2, n1 _ _ i hi] at a ⊢
      rcases split j hj with rfl | ⟨h3, h4⟩
      · rw [ho] at hoj; cases hoj
        simp only [upd_same]
        exact fun c d => h.hr0 i oi h1 hoi a b _ (hr2 c d)
      · simp only [upd_ne _ _ h4]; exact h.hr i oi h1 hoi a b j oj h3 hji hoj

theorem trace_of (ops : Array Oper) (base : Nat) : ∀ (rest : List Oper) (i0 : Nat) (fr fr' : Fr) (s s' : St) (hist : List (Nat × St)) (reads : List (Nat × Op × Fr × Value)), ops.toList.drop i0 = rest →
    drawOps P call ops base i0 rest fr s hist reads = some (fr', s') →
    ∃ F S V W C M, F i0 = fr ∧ S i0 = s ∧ F (i0 + rest.length) = fr' ∧ S (i0 + rest.length) = s' ∧ Tr P call ops base i0 F S V W C M hist reads
  | [], i0, fr, fr', s, s', hist, reads, hrest, h => by
    simp only [drawOps, Option.some.injEq, Prod.mk.injEq] at h
    obtain ⟨rfl, rfl⟩ := h
    have hlen : ops.size ≤ i0 := by
      have := congrArg List.length hrest
      simp at this; omega
    have no : ∀ {i o}, i0 ≤ i → ops[i]? = some o → False := fun hi ho => by have := (Array.getElem?_eq_some_iff.1 ho).1; omega
    refine ⟨fun _ => fr, fun _ => s, fun _ => undef, fun _ => false, fun _ => [], fun _ _ => undef, rfl, rfl, rfl, rfl, ?_⟩
    constructor <;> intro i o hi ho <;> exact (no hi ho).elim
  | o :: rest, i0, fr, fr', s, s', hist, reads, hrest, h => by
    have hget : ops[i0]? = some o := by
      have := congrArg (·[0]?) hrest
      simpa using this
    have hrest' : ops.toList.drop (i0 + 1) = rest := by
      have := congrArg List.tail hrest
      simpa using this
    simp only [drawOps] at h
    -- the rest of the trace, and one operation in front
    have go : ∀ (v : Value) (b : Bool) (s1 : St) (hist' : List (Nat × St)) (reads' : List (Nat × Op × Fr × Value)) (c : List Value) (m : Nat → Value), awanted ops o fr = some b →
        drawOps P call ops base (i0 + 1) rest (setf fr o.dst v) s1 hist' reads' = some (fr', s') →
        (b = false → v = skipped ∧ s1 = s) → (b = true → StepOK P call base i0 o.op fr s s1 v c m) →
        (∀ x ∈ hist, x ∈ hist') → (∀ x ∈ reads, x ∈ reads') → (b = true → classOf o.op = .hard → (i0, s) ∈ hist') → (b = true → isRead o.op → (i0, o.op, fr, v) ∈ reads') →
        (b = true → isRead o.op → ∀ x ∈ hist, ordered (Region.before ops) x.1 i0 = true ∨ aread P o.op fr x.2 = some v) →
        (b = true → classOf o.op = .hard → ∀ x ∈ hist, ordered (Region.before ops) x.1 i0 = true) →
        (b = true → classOf o.op = .hard → ∀ r ∈ reads, ordered (Region.before ops) r.1 i0 = true ∨ aread P r.2.1 r.2.2.1 s1 = some r.2.2.2) →
        ∃ F S V W C M, F i0 = fr ∧ S i0 = s ∧ F (i0 + (o :: rest).length) = fr' ∧ S (i0 + (o :: rest).length) = s' ∧ Tr P call ops base i0 F S V W C M hist reads := by
      intro v b s1 hist' reads' c m hw hd x1 x2 x3 x4 x5 x6 x7 x8 x9
      obtain ⟨F, S, V, W, C, M, e1, e2, e3, e4, tr⟩ := trace_of ops base rest (i0 + 1) _ _ _ _ hist' reads' hrest' hd
      refine ⟨upd F i0 fr, upd S i0 s, upd V i0 v, upd W i0 b, upd C i0 c, upd M i0 m, upd_same _ _ _, upd_same _ _ _, ?_, ?_, ?_⟩
      · rw [upd_ne _ _ (by simp)]; rw [← e3]; congr 1; simp; omega
      · rw [upd_ne _ _ (by simp)]; rw [← e4]; congr 1; simp; omega
      · exact tr.cons hget hw e1 (fun hb => by rw [e2]; exact x1 hb) (fun hb => by rw [e2]; exact x2 hb) x3 x4 x5 x6 x7 x8 (fun hb hc => by rw [e2]; exact x9 hb hc)
    have nh : ∀ {c : Class}, classOf o.op = c → c ≠ .hard → classOf o.op = .hard → False := fun e hne h' => hne (e.symm.trans h')
    have nr : ∀ {c : Class}, classOf o.op = c → c ≠ .load → c ≠ .slice → isRead o.op → False := fun e h1 h2 h' => by
      rcases h' with h' | h'
      · exact h1 (e.symm.trans h')
      · exact h2 (e.symm.trans h')
    split at h
    · cases h
    · rename_i hw
      refine go skipped false s hist reads [] (fun _ => undef) hw h (fun _ => ⟨rfl, rfl⟩) (fun e => by cases e) (fun _ h => h) (fun _ h => h) ?_ ?_ ?_ ?_ ?_ <;> intro e <;> cases e
    · rename_i hw
      have rd : isRead o.op → (match aread P o.op fr s with
          | some v => if hist.all (fun h => ordered (Region.before ops) h.1 i0 || stable P h.2 o.op fr v) then drawOps P call ops base (i0 + 1) rest (setf fr o.dst v) s hist ((i0, o.op, fr, v) :: reads) else none
          | none => none) = some (fr', s') →
          ∃ F S V W C M, F i0 = fr ∧ S i0 = s ∧ F (i0 + (o :: rest).length) = fr' ∧ S (i0 + (o :: rest).length) = s' ∧ Tr P call ops base i0 F S V W C M hist reads := by
        intro hr h
        split at h
        · rename_i v hv
          split at h
          · rename_i hall
            rw [List.all_eq_true] at hall
            have hnh : classOf o.op = .hard → False := fun e => by rcases hr with h' | h' <;> rw [h'] at e <;> cases e
            refine go v true s hist ((i0, o.op, fr, v) :: reads) [] (fun _ => undef) hw h (fun e => by cases e) (fun _ => .inr (.inl ⟨hr, hv, rfl⟩)) (fun _ h => h) (fun _ h => List.mem_cons_of_mem _ h) (fun _ e => (hnh e).elim) (fun _ _ => List.mem_cons_self) ?_ (fun _ e => (hnh e).elim) (fun _ e => (hnh e).elim)
            intro _ _ x hx
            have := hall x hx
            simp only [Bool.or_eq_true] at this
            exact this.imp id stable_read
          · cases h
        · cases h
      split at h
      · rename_i hcl
        split at h
        · rename_i v hv
          exact go v true s hist reads [] (fun _ => undef) hw h (fun e => by cases e) (fun _ => .inl ⟨hcl, hv, rfl⟩) (fun _ h => h) (fun _ h => h) (fun _ e => (nh hcl (by simp) e).elim) (fun _ e => (nr hcl (by simp) (by simp) e).elim)
            (fun _ e => (nr hcl (by simp) (by simp) e).elim) (fun _ e => (nh hcl (by simp) e).elim) (fun _ e => (nh hcl (by simp) e).elim)
        · cases h
      · rename_i hcl
        exact rd (.inl hcl) h
      · rename_i hcl
        exact rd (.inr hcl) h
      · rename_i hcl
        split at h
        · rename_i cs mk hv
          exact go (mk (base + i0)) true _ hist reads cs mk hw h (fun e => by cases e) (fun _ => .inr (.inr (.inl ⟨hcl, hv, rfl, rfl⟩))) (fun _ h => h) (fun _ h => h) (fun _ e => (nh hcl (by simp) e).elim) (fun _ e => (nr hcl (by simp) (by simp) e).elim)
            (fun _ e => (nr hcl (by simp) (by simp) e).elim) (fun _ e => (nh hcl (by simp) e).elim) (fun _ e => (nh hcl (by simp) e).elim)
        · cases h
      · rename_i hcl
        split at h
        · rename_i hall
          rw [List.all_eq_true] at hall
          split at h
          · rename_i v s1 hv
            split at h
            · rename_i hall2
              rw [List.all_eq_true] at hall2
              refine go v true s1 ((i0, s) :: hist) reads [] (fun _ => undef) hw h (fun e => by cases e) (fun _ => .inr (.inr (.inr ⟨hcl, hv⟩))) (fun _ h => List.mem_cons_of_mem _ h) (fun _ h => h) (fun _ _ => List.mem_cons_self) (fun _ e => (nr hcl (by simp) (by simp) e).elim)
                (fun _ e => (nr hcl (by simp) (by simp) e).elim) (fun _ _ x hx => hall x hx) ?_
              intro _ _ r hr
              have := hall2 r hr
              simp only [Bool.or_eq_true] at this
              exact this.imp id stable_read
            · cases h
          · cases h
        · cases h

end
end Go.Abs
