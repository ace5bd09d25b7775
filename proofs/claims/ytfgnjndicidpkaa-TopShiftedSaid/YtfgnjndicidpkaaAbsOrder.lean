/- Orders of a region's operations: what must come first, and what frames look like in between. -/
import Derived.Test.YtfgnjndicidpkaaAbsCode
namespace Go.Abs

section
variable {P : Program} {fr fr' : Fr} {s : St} {call : Value → List Value → St → Option (Value × St)}

/-! ### An operation looks at its operands alone -/

theorem map_ev_congr {l : List Operand} (h : ∀ x ∈ l, ev fr x = ev fr' x) : l.map (ev fr) = l.map (ev fr') := List.map_congr_left h

theorem amap_ev_congr {l : Array Operand} (h : ∀ x ∈ l, ev fr x = ev fr' x) : l.map (ev fr) = l.map (ev fr') := Array.map_congr_left h

theorem parts_congr {l : List (Nat × Operand)} (h : ∀ x ∈ l, ev fr x.2 = ev fr' x.2) : (l.map fun (i, x) => (i, ev fr x)) = (l.map fun (i, x) => (i, ev fr' x)) := by
  apply List.map_congr_left
  rintro ⟨i, x⟩ hx
  simp only [h _ hx]

theorem aquiet_congr {o : Op} (h : ∀ x ∈ o.operands, ev fr x = ev fr' x) : aquiet P o fr = aquiet P o fr' := by
  unfold aquiet
  cases o <;> simp only [Op.operands] at h <;> try rfl
  case move x => simp only [h x (by simp)]
  case assign x => simp only [h x (by simp)]
  case pick c a b => simp only [h c (by simp), h a (by simp), h b (by simp)]
  case build t ps => simp only; rw [parts_congr fun x hx => h x.2 (by simp; exact ⟨_, by simpa using hx⟩)]
  case nilCheck x => simp only [h x (by simp)]
  case binOp op t x y t' => simp only [h x (by simp), h y (by simp)]
  case unOp op t x => simp only [h x (by simp)]
  case convert a b x => simp only [h x (by simp)]
  case makeFunc fn a b =>
    cases fn <;> simp only
    rw [amap_ev_congr fun x hx => h x (by simp [hx]), amap_ev_congr (l := b) fun x hx => h x (by simp [hx])]
  case fieldAddr t x i => simp only [h x (by simp)]
  case field t x i => simp only [h x (by simp)]
  case indexAddr t x i => simp only [h x (by simp), h i (by simp)]
  case index t x i => simp only [h x (by simp), h i (by simp)]
  case extract x i => simp only [h x (by simp)]
  case call c =>
    obtain ⟨callee, args, argTypes⟩ := c
    have ha : ∀ x ∈ args, ev fr x = ev fr' x := fun x hx => h x (by simp [Call.operands, hx])
    cases callee with
    | builtin b =>
      cases b <;> simp only
      case len =>
        split
        · rename_i x t hx ht
          have : x ∈ args := by rw [← Array.mem_toList_iff, hx]; simp
          rw [ha x this]
        · rfl
      case min => rw [amap_ev_congr ha]
      case max => rw [amap_ev_congr ha]
      case cap => rw [amap_ev_congr ha]
    | _ => rfl

theorem aread_congr {o : Op} (h : ∀ x ∈ o.operands, ev fr x = ev fr' x) : aread P o fr s = aread P o fr' s := by
  unfold aread
  cases o <;> simp only [Op.operands] at h <;> try rfl
  case load t a => simp only [h a (by simp)]
  case slice t x lo hi mx =>
    simp only
    rw [h x (by simp)]
    congr 1
    · cases lo with | none => rfl | some y => simp [h y (by simp)]
    · cases hi with | none => rfl | some y => simp [h y (by simp)]
    · cases mx with | none => rfl | some y => simp [h y (by simp)]

theorem afresh_congr {o : Op} (h : ∀ x ∈ o.operands, ev fr x = ev fr' x) : afresh P o fr = afresh P o fr' := by
  unfold afresh
  cases o <;> simp only [Op.operands] at h <;> try rfl
  case box t x => simp only [h x (by simp)]
  case buildSlice t n ps => simp only; rw [parts_congr fun x hx => h x.2 (by simp; exact ⟨_, by simpa using hx⟩)]
  case makeSlice t l c => simp only [h l (by simp), h c (by simp)]

theorem ahard_congr {o : Op} (h : ∀ x ∈ o.operands, ev fr x = ev fr' x) : ahard P call o fr s = ahard P call o fr' s := by
  unfold ahard
  cases o <;> simp only [Op.operands] at h <;> try rfl
  case store t a x => simp only [h a (by simp), h x (by simp)]
  case call c =>
    obtain ⟨callee, args, argTypes⟩ := c
    have ha : ∀ x ∈ args, ev fr x = ev fr' x := fun x hx => h x (by simp [Call.operands, hx])
    cases callee with
    | value f =>
      simp only
      rw [h f (by simp [Call.operands]), map_ev_congr fun x hx => ha x (by simpa using hx)]
    | builtin b =>
      cases b <;> simp only
      case append =>
        split
        · rename_i x y st xt hx ht
          have e1 : x ∈ args := by rw [← Array.mem_toList_iff, hx]; simp
          have e2 : y ∈ args := by rw [← Array.mem_toList_iff, hx]; simp
          rw [ha x e1, ha y e2]
        · rfl
      case copy =>
        split
        · rename_i x y t ts hx ht
          have e1 : x ∈ args := by rw [← Array.mem_toList_iff, hx]; simp
          have e2 : y ∈ args := by rw [← Array.mem_toList_iff, hx]; simp
          rw [ha x e1, ha y e2]
        · rfl
      case clear =>
        split
        · rename_i x t ts hx ht
          have e1 : x ∈ args := by rw [← Array.mem_toList_iff, hx]; simp
          rw [ha x e1]
        · rfl
    | _ => rfl

/-! ### What comes before what -/

/-- Operation i waits for operation j, perhaps through others. -/
inductive TC (ops : Array Oper) : Nat → Nat → Prop where
  | one {i : Nat} {o : Oper} {e : Edge} : ops[i]? = some o → e ∈ o.after → Region.binds .any e = true → TC ops i e.on
  | more {i j : Nat} {o : Oper} {e : Edge} : ops[i]? = some o → e ∈ o.after → Region.binds .any e = true → TC ops e.on j → TC ops i j

theorem TC.mem {ops : Array Oper} {X : Nat → Prop} (hX : ∀ k o, X k → ops[k]? = some o → ∀ e ∈ o.after, Region.binds .any e = true → X e.on) {i j : Nat} (h : TC ops i j)
    (hi : ∀ o, ops[i]? = some o → ∀ e ∈ o.after, Region.binds .any e = true → X e.on) : X j := by
  induction h with
  | one ho he hb => exact hi _ ho _ he hb
  | more ho he hb _ ih => exact ih fun o' ho' e' he' hb' => hX _ o' (hi _ ho _ he hb) ho' e' he' hb'

theorem before_fold {ops : Array Oper} {acc : Array Nat} {i : Nat} {o : Oper} (ho : ops[i]? = some o) (hacc : ∀ k, k < acc.size → ∀ j, (acc.getD k 0).testBit j = true → TC ops k j) :
    ∀ (l : List Edge), (∀ e ∈ l, e ∈ o.after) → ∀ (n : Nat), (∀ j, n.testBit j = true → TC ops i j) → ∀ j, (l.foldl (fun s e => if Region.binds .any e then s ||| 2 ^ e.on ||| acc.getD e.on 0 else s) n).testBit j = true → TC ops i j
  | [], _, n, hn, j, hj => hn j hj
  | e :: l, hl, n, hn, j, hj => by
    simp only [List.foldl_cons] at hj
    refine before_fold ho hacc l (fun e' he' => hl e' (by simp [he'])) _ (fun j' hj' => ?_) j hj
    split at hj'
    · rename_i hb
      simp only [Nat.testBit_or, Bool.or_eq_true, Nat.testBit_two_pow, decide_eq_true_eq] at hj'
      rcases hj' with (h1 | h1) | h1
      · exact hn j' h1
      · subst h1; exact .one ho (hl e (by simp)) hb
      · by_cases hlt : e.on < acc.size
        · exact .more ho (hl e (by simp)) hb (hacc _ hlt _ h1)
        · simp [Array.getD, hlt] at h1
    · exact hn j' hj'

def befStep (acc : Array Nat) (o : Oper) : Nat := o.after.foldl (fun s e => if Region.binds .any e then s ||| 2 ^ e.on ||| acc.getD e.on 0 else s) 0

theorem before_eq (ops : Array Oper) : Region.before ops = ops.foldl (fun acc o => acc.push (befStep acc o)) #[] := rfl

theorem befStep_spec {ops : Array Oper} {acc : Array Nat} {i : Nat} {o : Oper} (ho : ops[i]? = some o) (hacc : ∀ k, k < acc.size → ∀ j, (acc.getD k 0).testBit j = true → TC ops k j) (j : Nat) (hj : (befStep acc o).testBit j = true) : TC ops i j := by
  unfold befStep at hj
  rw [← Array.foldl_toList] at hj
  exact before_fold ho hacc _ (fun e he => by simpa using he) 0 (fun j hj => by simp at hj) j hj

theorem before_spec {ops : Array Oper} {i j : Nat} (h : ordered (Region.before ops) j i = true) : TC ops i j := by
  unfold ordered at h
  rw [before_eq] at h
  have key := Array.foldl_induction (as := ops) (motive := fun m (acc : Array Nat) => acc.size = m ∧ ∀ k, k < acc.size → ∀ j, (acc.getD k 0).testBit j = true → TC ops k j)
    (init := (#[] : Array Nat)) (f := fun acc o => acc.push (befStep acc o))
    ⟨rfl, fun k hk => by simp at hk⟩ (by
      rintro ⟨m, hm⟩ acc ⟨hsz, hacc⟩
      refine ⟨by simp [hsz], fun k hk j hj => ?_⟩
      by_cases hkm : k < acc.size
      · refine hacc k hkm j ?_
        rw [← hj]
        simp [Array.getElem?_push_lt hkm, Array.getElem?_eq_getElem hkm]
      · have hkm' : k = acc.size := by simp at hk; omega
        subst hkm'
        have ho : ops[acc.size]? = some ops[m] := by rw [hsz]; simp [hm]
        refine befStep_spec ho hacc j ?_
        rw [← hj]
        simp)
  by_cases hlt : i < (ops.foldl (fun acc o => acc.push (befStep acc o)) #[]).size
  · exact key.2 i hlt j h
  · rw [Array.getD_eq_getD_getElem?, Array.getElem?_eq_none (Nat.le_of_not_lt hlt)] at h
    simp at h

/-- What the check of a region says: edges lead back, and what does not wait is apart. -/
theorem lex_facts {ops : Array Oper} : ∀ (fuel k : Nat) (listed : Array Bool), listed.size = ops.size → (∀ j, j < ops.size → listed.getD j true = decide (j < k)) → k + fuel = ops.size → Region.lexFrom .any ops fuel k listed = true →
    ∀ i oi, k ≤ i → ops[i]? = some oi → (∀ e ∈ oi.after, Region.binds .any e = true → e.on < i) ∧
      ∀ j oj, i < j → ops[j]? = some oj → (∃ e ∈ oj.after, Region.binds .any e = true ∧ e.on = i) ∨ oi.apart ops oj = true
  | 0, k, listed, _, _, hk, _, i, oi, hi, hoi => by
    have := (Array.getElem?_eq_some_iff.1 hoi).1
    omega
  | fuel + 1, k, listed, hsz, hl, hk, h, i, oi, hi, hoi => by
    simp only [Region.lexFrom, Bool.and_eq_true, List.contains_iff_mem] at h
    obtain ⟨⟨hr, hf⟩, hrest⟩ := h
    by_cases hik : i = k
    · subst hik
      obtain ⟨_, o, ho, hall⟩ := mem_ready.1 hr
      rw [hoi] at ho; cases ho
      refine ⟨fun e he hb => ?_, fun j oj hij hoj => ?_⟩
      · have h1 := hall e he hb
        by_cases hlt : e.on < ops.size
        · have h2 := hl e.on hlt
          have h3 : listed.getD e.on true = true := by
            have hlt' : e.on < listed.size := by omega
            simp only [Array.getD, hlt', dif_pos] at h1 ⊢
            exact h1
          rw [h3] at h2
          simpa using h2.symm
        · have hlt' : ¬ e.on < listed.size := by omega
          simp [Array.getD, hlt'] at h1
      · by_cases hw : ∃ e ∈ oj.after, Region.binds .any e = true ∧ e.on = i
        · exact .inl hw
        · refine .inr (Region.free_spec hoi hf j oj hoj (by omega) ?_ fun e he hb heq => hw ⟨e, he, hb, heq⟩)
          rw [hl j (Array.getElem?_eq_some_iff.1 hoj).1]
          simp; omega
    · refine lex_facts fuel (k + 1) (listed.setIfInBounds k true) (by simp [hsz]) (fun j hj => ?_) (by omega) hrest i oi (by omega) hoi
      have hkl : k < listed.size := by omega
      by_cases hjk : j = k
      · subst hjk
        simp [Array.getD, hkl]
      · rw [getD_set_ne true (Ne.symm hjk), hl j hj]
        congr 1
        simp; omega

/-! ### Frames in between -/

/-- The frame behind the first n operations, of those that X lets by. -/
def frUp (dst : Nat → Option Tmp) (V : Nat → Value) (fr0 : Fr) (X : Nat → Bool) : Nat → Fr
  | 0 => fr0
  | n + 1 => if X n then setf (frUp dst V fr0 X n) (dst n) (V n) else frUp dst V fr0 X n

variable {dst : Nat → Option Tmp} {V : Nat → Value} {fr0 : Fr} {X Y : Nat → Bool}

@[simp] theorem length_setf (fr : Fr) (d : Option Tmp) (v : Value) : (setf fr d v).length = fr.length := by cases d <;> simp [setf]

@[simp] theorem length_frUp (n : Nat) : (frUp dst V fr0 X n).length = fr0.length := by
  induction n with
  | zero => rfl
  | succ n ih => simp only [frUp]; split <;> simp [ih]

theorem getf_setf_other {fr : Fr} {d : Option Tmp} {t : Tmp} {v : Value} (h : d ≠ some t) : getf (setf fr d v) t = getf fr t := by
  cases d with
  | none => rfl
  | some d => rw [getf_setf]; have : ¬ (d = t ∧ d < fr.length) := fun ⟨e, _⟩ => h (by rw [e]); rw [if_neg this]

theorem getf_setf_same {fr fr' : Fr} {t : Tmp} {v : Value} (h : fr.length = fr'.length) (he : getf fr t = getf fr' t) : getf (setf fr (some t) v) t = getf (setf fr' (some t) v) t := by
  rw [getf_setf, getf_setf, h, he]

theorem frUp_congr {t : Tmp} : ∀ n, (∀ k, k < n → dst k = some t → X k = Y k) → getf (frUp dst V fr0 X n) t = getf (frUp dst V fr0 Y n) t := by
  intro n
  induction n with
  | zero => intro _; rfl
  | succ n ih =>
    intro h
    have ih' := ih fun k hk => h k (by omega)
    simp only [frUp]
    by_cases hd : dst n = some t
    · rw [h n (by omega) hd]
      split
      · rw [hd]; exact getf_setf_same (by simp) ih'
      · exact ih'
    · have e1 : ∀ Z : Nat → Bool, getf (if Z n then setf (frUp dst V fr0 Z n) (dst n) (V n) else frUp dst V fr0 Z n) t = getf (frUp dst V fr0 Z n) t := fun Z => by
        split
        · exact getf_setf_other hd
        · rfl
      rw [e1, e1, ih']

theorem frUp_beyond : ∀ n m, n ≤ m → (∀ k, n ≤ k → k < m → X k = false) → frUp dst V fr0 X m = frUp dst V fr0 X n := by
  intro n m hnm
  induction m with
  | zero => intro _; have : n = 0 := by omega
            subst this; rfl
  | succ m ih =>
    intro h
    by_cases e : n = m + 1
    · subst e; rfl
    · simp only [frUp]
      rw [h m (by omega) (by omega)]
      simp only [Bool.false_eq_true, if_false]
      exact ih (by omega) fun k h1 h2 => h k h1 (by omega)

theorem frUp_last {t : Tmp} {i : Nat} (hi : X i = true) (hd : dst i = some t) (ht : t < fr0.length) : ∀ n, i < n → (∀ k, i < k → k < n → X k = true → dst k ≠ some t) → getf (frUp dst V fr0 X n) t = V i := by
  intro n
  induction n with
  | zero => intro h; omega
  | succ n ih =>
    intro hin h
    simp only [frUp]
    by_cases e : i = n
    · subst e
      rw [hi, if_pos rfl, hd, getf_setf]
      simp [ht]
    · have ih' := ih (by omega) fun k h1 h2 => h k h1 (by omega)
      split
      · rename_i hX
        rw [getf_setf_other (h n (by omega) (by omega) hX)]
        exact ih'
      · exact ih'

theorem fr_ext {a b : Fr} (hl : a.length = b.length) (h : ∀ t, t < a.length → getf a t = getf b t) : a = b := by
  apply List.ext_getElem hl
  intro i h1 h2
  have := h i h1
  simpa [getf, List.getD, h1, h2] using this

end
end Go.Abs
