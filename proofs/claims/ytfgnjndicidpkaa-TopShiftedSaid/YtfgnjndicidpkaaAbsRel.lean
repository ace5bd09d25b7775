/- How the evaluator's values and store stand to the machine's. -/
import Derived.Test.YtfgnjndicidpkaaAbsDef
namespace Go.Abs

/-- A place of the heap; of a grown block: the cells of an element, and how many cells the block has there. -/
structure Place where
  block : Nat
  off : Nat
  grown : Bool
  size : Nat
  room : Nat

abbrev FMap := Nat → Option Place
abbrev LMap := Nat → Option Nat

inductive VRel (f : FMap) (g : LMap) : Value → Value → Prop where
  | undef (v : Value) : VRel f g (.tuple #[]) v
  | plain {v : Value} : splain v = true → VRel f g v v
  | ptr {b off : Nat} {p : Place} : f b = some p → VRel f g (.pointer (some ⟨b, off, none⟩)) (.pointer (some ⟨p.block, p.off + off, none⟩))
  | slice {b off len cap cap' : Nat} {p : Place} : f b = some p → (p.grown = false → cap' = cap) → cap ≤ cap' → (p.grown = true → p.off + off + cap' * p.size ≤ p.room) →
      VRel f g (.slice (some ⟨b, off, none⟩) len cap) (.slice (some ⟨p.block, p.off + off, none⟩) len cap')
  | sliceX {b off len cap : Nat} {p : Place} : f b = some p →
      VRel f g (.slice (some ⟨b, off, some 0⟩) len cap) (.slice (some ⟨p.block, p.off + off, none⟩) len cap)
  | sliceE {b off cap' : Nat} {p : Place} {q : Addr} : f b = some p → ((q = ⟨p.block, p.off + off, none⟩ ∧ p.off + off + cap' * p.size ≤ p.room) ∨ cap' = 0) →
      VRel f g (.slice (some ⟨b, off, some 1⟩) 0 0) (.slice (some q) 0 cap')
  | skip : VRel f g (.tuple #[.tuple #[]]) (.tuple #[])
  | slice0 {b off : Nat} {q : Addr} : VRel f g (.slice (some ⟨b, off, some 2⟩) 0 0) (.slice (some q) 0 0)
  | func {k : FuncId} {a b a' b' : Array Value} : a.size = a'.size → b.size = b'.size → (∀ i : Nat, VRel f g (a.toList.getD i undef) (a'.toList.getD i undef)) →
      (∀ i : Nat, VRel f g (b.toList.getD i undef) (b'.toList.getD i undef)) → VRel f g (.func (.func k) a b) (.func (.func k) a' b')
  | yield {l l' : Nat} : g l = some l' → VRel f g (.func (.yield l) #[] #[]) (.func (.yield l') #[] #[])
  | agg {a a' : Array Value} : a.size = a'.size → (∀ i : Nat, VRel f g (a.toList.getD i undef) (a'.toList.getD i undef)) → VRel f g (.agg a) (.agg a')
  | tuple {a a' : Array Value} : a.size = a'.size → (∀ i : Nat, VRel f g (a.toList.getD i undef) (a'.toList.getD i undef)) → VRel f g (.tuple a) (.tuple a')

def VsRel (f : FMap) (g : LMap) (l l' : List Value) : Prop := l.length = l'.length ∧ ∀ i : Nat, VRel f g (l.getD i undef) (l'.getD i undef)

def Ext {α : Type} (f f' : Nat → Option α) : Prop := ∀ b p, f b = some p → f' b = some p

section
variable {f f' : FMap} {g g' : LMap}

theorem VRel.mono (hf : Ext f f') (hg : Ext g g') {v v' : Value} (h : VRel f g v v') : VRel f' g' v v' := by
  induction h with
  | undef v => exact .undef v
  | plain h => exact .plain h
  | ptr h => exact .ptr (hf _ _ h)
  | slice h a b c => exact .slice (hf _ _ h) a b c
  | sliceX h => exact .sliceX (hf _ _ h)
  | sliceE h a => exact .sliceE (hf _ _ h) a
  | slice0 => exact .slice0
  | skip => exact .skip
  | func a b _ _ c d => exact .func a b c d
  | yield h => exact .yield (hg _ _ h)
  | agg a _ c => exact .agg a c
  | tuple a _ c => exact .tuple a c

theorem VsRel.mono (hf : Ext f f') (hg : Ext g g') {l l' : List Value} (h : VsRel f g l l') : VsRel f' g' l l' :=
  ⟨h.1, fun i => (h.2 i).mono hf hg⟩

theorem VRel.undef' (v : Value) : VRel f g Go.undef v := .undef v

theorem VsRel.nil : VsRel f g [] [] := ⟨rfl, fun i => by simpa [List.getD] using VRel.undef' _⟩

theorem VsRel.cons {v v' : Value} {l l' : List Value} (h : VRel f g v v') (hl : VsRel f g l l') : VsRel f g (v :: l) (v' :: l') :=
  ⟨by simp [hl.1], fun i => by cases i with
    | zero => simpa using h
    | succ i => simpa using hl.2 i⟩

theorem VsRel.head {v v' : Value} {l l' : List Value} (h : VsRel f g (v :: l) (v' :: l')) : VRel f g v v' := by simpa using h.2 0
theorem VsRel.tail {v v' : Value} {l l' : List Value} (h : VsRel f g (v :: l) (v' :: l')) : VsRel f g l l' :=
  ⟨by simpa using h.1, fun i => by simpa using h.2 (i + 1)⟩

theorem VsRel.of_cons {v : Value} {l m : List Value} (h : VsRel f g (v :: l) m) : ∃ v' l', m = v' :: l' ∧ VRel f g v v' ∧ VsRel f g l l' := by
  cases m with
  | nil => simp [VsRel] at h
  | cons v' l' => exact ⟨v', l', rfl, h.head, h.tail⟩

theorem VsRel.of_nil {m : List Value} (h : VsRel f g [] m) : m = [] := by
  have := h.1
  exact List.length_eq_zero_iff.1 this.symm

theorem VsRel.append {a a' b b' : List Value} (h : VsRel f g a a') (k : VsRel f g b b') : VsRel f g (a ++ b) (a' ++ b') := by
  induction a generalizing a' with
  | nil => rw [h.of_nil]; exact k
  | cons v l ih =>
    obtain ⟨v', l', rfl, hv, hl⟩ := h.of_cons
    exact VsRel.cons hv (ih hl)

theorem VsRel.set {l l' : List Value} (h : VsRel f g l l') (i : Nat) {v v' : Value} (hv : VRel f g v v') : VsRel f g (l.set i v) (l'.set i v') := by
  refine ⟨by simp [h.1], fun j => ?_⟩
  simp only [List.getD, List.getElem?_set]
  by_cases hij : i = j
  · subst hij
    by_cases hi : i < l.length
    · have hi' : i < l'.length := h.1 ▸ hi
      simp [hi, hi', hv]
    · have hi' : ¬ i < l'.length := h.1 ▸ hi
      simp [hi, hi']
      exact VRel.undef' _
  · simp only [hij, if_false]
    exact h.2 j

theorem VsRel.drop {l l' : List Value} (h : VsRel f g l l') (n : Nat) : VsRel f g (l.drop n) (l'.drop n) :=
  ⟨by simp [h.1], fun i => by simpa [List.getD] using h.2 (n + i)⟩

theorem VsRel.take {l l' : List Value} (h : VsRel f g l l') (n : Nat) : VsRel f g (l.take n) (l'.take n) := by
  refine ⟨by simp [h.1], fun i => ?_⟩
  simp only [List.getD, List.getElem?_take]
  by_cases hi : i < n
  · simp only [hi, if_true]; exact h.2 i
  · simp only [hi, if_false]; exact VRel.undef' _

theorem VsRel.get {l l' : List Value} (h : VsRel f g l l') {i : Nat} {v : Value} (hv : l[i]? = some v) : ∃ v', l'[i]? = some v' ∧ VRel f g v v' := by
  have hi : i < l.length := (List.getElem?_eq_some_iff.1 hv).1
  have hi' : i < l'.length := h.1 ▸ hi
  refine ⟨l'[i], List.getElem?_eq_getElem hi', ?_⟩
  have := h.2 i
  simpa [List.getD, hv, hi'] using this

theorem VsRel.splice : ∀ {vs vs' : List Value} {l l' : List Value} (_ : VsRel f g l l') (_ : VsRel f g vs vs') (i : Nat), VsRel f g (splice l i vs) (splice l' i vs')
  | [], vs', l, l', h, k, i => by rw [k.of_nil]; exact h
  | v :: vs, vs', l, l', h, k, i => by
    obtain ⟨v', m', rfl, hv, hm⟩ := k.of_cons
    exact VsRel.splice (h.set i hv) hm (i + 1)

theorem VsRel.replicate {v v' : Value} (h : VRel f g v v') (n : Nat) : VsRel f g (List.replicate n v) (List.replicate n v') := by
  induction n with
  | zero => exact .nil
  | succ n ih => exact .cons h ih

theorem VsRel.copies {l l' : List Value} (h : VsRel f g l l') (n : Nat) : VsRel f g (copies n l) (copies n l') := by
  induction n with
  | zero => exact .nil
  | succ n ih => exact h.append ih

theorem VsRel.map_ev {fr : Fr} {ρ : Operand → Value} (h : ∀ x, VRel f g (ev fr x) (ρ x)) (l : List Operand) : VsRel f g (l.map (ev fr)) (l.map ρ) := by
  induction l with
  | nil => exact .nil
  | cons x l ih => exact .cons (h x) ih

theorem splain_rel {v v' : Value} (h : VRel f g v v') (hp : splain v = true) : v' = v := by
  cases h <;> first | rfl | (simp [splain] at hp)

theorem plain_rel {v v' : Value} (h : VRel f g v v') (hp : plain v = true) : v' = v := by
  cases h with
  | undef v => simp [plain, splain] at hp
  | plain h => rfl
  | ptr h => simp [plain, splain] at hp
  | slice h => simp [plain, splain] at hp
  | sliceX h => simp [plain, splain] at hp
  | sliceE h => simp [plain, splain] at hp
  | slice0 => simp [plain, splain] at hp
  | skip => simp [plain, splain] at hp
  | func => simp [plain, splain] at hp
  | yield => simp [plain, splain] at hp
  | tuple => simp [plain, splain] at hp
  | @agg a a' hs h =>
    congr 1
    apply Array.ext hs.symm
    intro i h1 h2
    have hi := h i
    simp only [plain] at hp
    rw [List.all_eq_true] at hp
    have := hp (a[i]) (by simp [Array.getElem_mem])
    simp [List.getD, h1, h2] at hi
    exact splain_rel hi this

theorem rel_of_plain {v : Value} (hp : plain v = true) : VRel f g v v := by
  cases v with
  | agg cs =>
    refine .agg rfl fun i => ?_
    simp only [plain, List.all_eq_true] at hp
    by_cases hi : i < cs.size
    · have := hp (cs[i]) (by simp [Array.getElem_mem])
      simp only [List.getD, Array.getElem?_toList, hi, Array.getElem?_eq_getElem, Option.getD_some]
      exact .plain this
    · simp only [List.getD, Array.getElem?_toList, Array.getElem?_eq_none (Nat.le_of_not_lt hi), Option.getD_none]
      exact VRel.undef' _
  | _ => exact .plain (by simpa [plain] using hp)

/-- The cells of a value that is no tuple. -/
theorem VRel.cells {v v' : Value} (h : VRel f g v v') (hv : isVal v = true) : VsRel f g v.cells.toList v'.cells.toList := by
  cases h with
  | undef v => simp [isVal] at hv
  | skip => simp [isVal] at hv
  | tuple => simp [isVal] at hv
  | agg hs h => exact ⟨by simpa [Value.cells] using hs, h⟩
  | @plain v h =>
    have : v.cells = #[v] := by cases v <;> simp [splain] at h <;> rfl
    rw [this]
    exact .cons (.plain h) .nil
  | ptr h => exact .cons (.ptr h) .nil
  | slice h a b c => exact .cons (.slice h a b c) .nil
  | sliceX h => exact .cons (.sliceX h) .nil
  | sliceE h a => exact .cons (.sliceE h a) .nil
  | slice0 => exact .cons .slice0 .nil
  | func a b c d => exact .cons (.func a b c d) .nil
  | yield h => exact .cons (.yield h) .nil

theorem VRel.scalar {v v' : Value} (h : VRel f g v v') (hv : scalar v = true) : v'.oneCell' = true := by
  cases h with
  | undef v => simp [Abs.scalar] at hv
  | skip => simp [Abs.scalar] at hv
  | tuple => simp [Abs.scalar] at hv
  | agg hs h => simp [Abs.scalar] at hv
  | @plain v h => cases v <;> simp [splain] at h <;> rfl
  | _ => rfl

theorem pureRun_run {α : Type} {P : Program} {s : Sem α} {a : α} (h : pureRun P s = some a) (w : World) : s.run P w = .ok a w := by
  induction s with
  | pure b => simp [pureRun] at h; simp [Sem.run, h]
  | program k ih => simp only [pureRun] at h; simp only [Sem.run]; exact ih _ h
  | _ => simp [pureRun] at h

theorem pureVal_run {P : Program} {s : Sem Value} {v : Value} (h : pureVal P s = some v) : VRel f g v v ∧ ∀ w, s.run P w = .ok v w := by
  unfold pureVal at h
  split at h
  · rename_i u hu
    split at h
    · rename_i hp
      simp only [Option.some.injEq] at h
      subst h
      exact ⟨rel_of_plain hp, fun w => pureRun_run hu w⟩
    · cases h
  · cases h

theorem getf_setf (fr : Fr) (d t : Nat) (v : Value) : getf (setf fr (some d) v) t = if d = t ∧ d < fr.length then v else getf fr t := by
  simp only [getf, setf, List.getD, List.getElem?_set]
  by_cases h : d = t
  · subst h
    by_cases hl : d < fr.length
    · simp [hl]
    · simp [hl]
  · simp [h]

theorem rel_eval {fr : Fr} {a : Act} (h : VsRel f g fr a.tmps.toList) (x : Operand) : VRel f g (ev fr x) (a.eval x) := by
  cases x with
  | tmp t =>
    have := h.2 t
    simp only [List.getD, Array.getElem?_toList] at this
    simpa [ev, getf, Act.eval, List.getD, Array.getD_eq_getD_getElem?] using this
  | const v =>
    simp only [ev, Act.eval]
    split
    · exact rel_of_plain ‹_›
    · exact VRel.undef' _
  | global n => exact VRel.undef' _
  | func k => exact .func rfl rfl (fun i => by simpa [List.getD] using VRel.undef' _) (fun i => by simpa [List.getD] using VRel.undef' _)

theorem rel_put {fr : Fr} {a : Act} (h : VsRel f g fr a.tmps.toList) (d : Option Tmp) {v v' : Value} (hv : VRel f g v v') : VsRel f g (setf fr d v) (a.put d v').tmps.toList := by
  cases d with
  | none => exact h
  | some d => simpa [setf, Act.put] using h.set d hv

end
end Go.Abs
