/- Assignments of the greatest value and prices, without any program: sums over permutations, walks and circles. -/
import Derived.Test.YtfgnjndicidpkaaAbsDef
namespace Go.Proofs.Ytfgnjndicidpkaa

/-! ### Sums -/

def Sm : Nat → (Nat → Int) → Int
  | 0, _ => 0
  | n + 1, h => Sm n h + h n
theorem Sm.congr : ∀ {n : Nat} {g h : Nat → Int}, (∀ i, i < n → g i = h i) → Sm n g = Sm n h
  | 0, _, _, _ => rfl
  | n + 1, g, h, e => by rw [Sm, Sm, Sm.congr (fun i hi => e i (by omega)), e n (by omega)]
theorem Sm.zero : ∀ {n : Nat}, Sm n (fun _ => 0) = 0
  | 0 => rfl
  | n + 1 => by rw [Sm, Sm.zero]; rfl
theorem Sm.nil {n : Nat} {h : Nat → Int} (e : ∀ i, i < n → h i = 0) : Sm n h = 0 := (Sm.congr e).trans Sm.zero
theorem Sm.add : ∀ {n : Nat} {g h : Nat → Int}, Sm n (fun i => g i + h i) = Sm n g + Sm n h
  | 0, _, _ => rfl
  | n + 1, g, h => by rw [Sm, Sm, Sm, Sm.add]; omega
theorem Sm.sub : ∀ {n : Nat} {g h : Nat → Int}, Sm n (fun i => g i - h i) = Sm n g - Sm n h
  | 0, _, _ => rfl
  | n + 1, g, h => by rw [Sm, Sm, Sm, Sm.sub]; omega
theorem Sm.le : ∀ {n : Nat} {g h : Nat → Int}, (∀ i, i < n → g i ≤ h i) → Sm n g ≤ Sm n h
  | 0, _, _, _ => by simp [Sm]
  | n + 1, g, h, e => by
    have h1 := Sm.le (n := n) (g := g) (h := h) (fun i hi => e i (by omega))
    have h2 := e n (by omega)
    simp only [Sm]; omega
theorem Sm.tight : ∀ {n : Nat} {g h : Nat → Int}, (∀ i, i < n → g i ≤ h i) → Sm n h ≤ Sm n g → ∀ i, i < n → g i = h i
  | 0, _, _, _, _ => by intro i hi; omega
  | n + 1, g, h, e, hs => by
    intro i hi
    have h1 := Sm.le (n := n) (g := g) (h := h) (fun i hi => e i (by omega))
    have h2 := e n (by omega)
    simp only [Sm] at hs
    by_cases hin : i = n
    · subst hin; omega
    · exact Sm.tight (n := n) (g := g) (h := h) (fun i hi => e i (by omega)) (by omega) i (by omega)
theorem Sm.swap : ∀ {n m : Nat} {g : Nat → Nat → Int}, Sm n (fun i => Sm m (g i)) = Sm m (fun j => Sm n (fun i => g i j))
  | 0, m, g => by simp only [Sm]; exact Sm.zero.symm
  | n + 1, m, g => by rw [Sm, Sm.swap, ← Sm.add]; rfl
theorem Sm.one : ∀ {n : Nat} {h : Nat → Int} {k : Nat}, k < n → (∀ i, i < n → i ≠ k → h i = 0) → Sm n h = h k
  | 0, _, _, hk, _ => by omega
  | n + 1, h, k, hk, e => by
    rw [Sm]
    by_cases hkn : k = n
    · subst hkn
      rw [Sm.nil (fun i hi => e i (by omega) (by omega))]; omega
    · rw [Sm.one (k := k) (by omega) (fun i hi hne => e i (by omega) hne), e n (by omega) (Ne.symm hkn)]; omega
/-- Two sums that differ at one place. -/
theorem Sm.differ {n : Nat} {g h : Nat → Int} {k : Nat} (hk : k < n) (e : ∀ i, i < n → i ≠ k → g i = h i) : Sm n g = Sm n h + (g k - h k) := by
  have : Sm n (fun i => g i - h i) = g k - h k := Sm.one (h := fun i => g i - h i) hk fun i hi hne => by rw [e i hi hne]; omega
  rw [Sm.sub] at this
  omega
theorem Sm.const {n : Nat} {c : Int} : Sm n (fun _ => c) = n * c := by
  induction n with
  | zero => simp [Sm]
  | succ n ih => rw [Sm, ih, Int.natCast_succ, Int.add_mul, Int.one_mul]

/-! ### Assignments -/

structure Asg (n : Nat) (a : Nat → Nat) : Prop where
  lt : ∀ i, i < n → a i < n
  inj : ∀ i j, i < n → j < n → a i = a j → i = j

theorem Asg.onto {n : Nat} {a : Nat → Nat} (h : Asg n a) : ∀ j, j < n → ∃ i, i < n ∧ a i = j := by
  have cnt : ∀ j, j < n → Sm n (fun i => if a i = j then 1 else 0) ≤ 1 := by
    intro j _
    by_cases e : ∃ i, i < n ∧ a i = j
    · obtain ⟨i, hi, rfl⟩ := e
      rw [Sm.one hi (fun k hk hne => if_neg fun e => hne (h.inj _ _ hk hi e))]
      simp
    · rw [Sm.nil (fun i hi => if_neg fun e' => e ⟨i, hi, e'⟩)]; omega
  have tot : Sm n (fun j => Sm n (fun i => if a i = j then 1 else 0)) = n := by
    rw [← Sm.swap]
    have : ∀ i, i < n → Sm n (fun j => if a i = j then (1 : Int) else 0) = 1 := fun i hi => by
      rw [Sm.one (k := a i) (h.lt i hi) (fun k _ hne => if_neg (Ne.symm hne))]; simp
    rw [Sm.congr this, Sm.const]; omega
  intro j hj
  have h1 : Sm n (fun j => Sm n (fun i => if a i = j then (1 : Int) else 0)) = Sm n (fun _ => 1) := by rw [tot, Sm.const]; omega
  have h2 := Sm.tight cnt (by rw [h1]; exact Int.le_refl _) j hj
  exact Classical.byContradiction fun e => by
    rw [Sm.nil (fun i hi => if_neg fun e' => e ⟨i, hi, e'⟩)] at h2
    omega

theorem Sm.perm {n : Nat} {a : Nat → Nat} (h : Asg n a) (p : Nat → Int) : Sm n (fun i => p (a i)) = Sm n p := by
  have e1 : Sm n (fun i => p (a i)) = Sm n (fun i => Sm n (fun j => if a i = j then p j else 0)) := Sm.congr fun i hi => by
    rw [Sm.one (k := a i) (h.lt i hi) (fun k _ hne => if_neg (Ne.symm hne))]; simp
  rw [e1, Sm.swap]
  refine Sm.congr fun j hj => ?_
  obtain ⟨i, hi, rfl⟩ := h.onto j hj
  rw [Sm.one hi (fun k hk hne => if_neg fun e => hne (h.inj _ _ hk hi e))]
  simp

theorem Asg.comp {n : Nat} {a b : Nat → Nat} (ha : Asg n a) (hb : Asg n b) : Asg n (fun i => b (a i)) :=
  ⟨fun i hi => hb.lt _ (ha.lt i hi), fun i j hi hj e => ha.inj i j hi hj (hb.inj _ _ (ha.lt i hi) (ha.lt j hj) e)⟩

def valOf (n : Nat) (V : Nat → Nat → Int) (a : Nat → Nat) : Int := Sm n fun i => V i (a i)
structure Opt (n : Nat) (V : Nat → Nat → Int) (a : Nat → Nat) : Prop where
  asg : Asg n a
  most : ∀ b, Asg n b → valOf n V b ≤ valOf n V a

/-! ### Walks -/

variable {n : Nat} {w : Nat → Nat → Int}

/-- The weight of a walk. -/
def pw (w : Nat → Nat → Int) : List Nat → Int
  | x :: y :: r => w x y + pw w (y :: r)
  | _ => 0
theorem pw_app (w : Nat → Nat → Int) : ∀ (A : List Nat) (x : Nat) (B : List Nat), pw w (A ++ x :: B) = pw w (A ++ [x]) + pw w (x :: B)
  | [], x, B => by simp [pw]
  | [y], x, B => by simp [pw]
  | y :: z :: A, x, B => by
    have := pw_app w (z :: A) x B
    simp only [List.cons_append, pw] at this ⊢
    omega

/-- Each node of a walk but the last goes to the next one. -/
def fol : List Nat → Nat → Nat
  | x :: y :: r, j => if j = x then y else fol (y :: r) j
  | _, j => j

theorem fol_off : ∀ {q : List Nat} {j : Nat}, j ∉ q.dropLast → fol q j = j
  | [], _, _ => rfl
  | [_], _, _ => rfl
  | x :: y :: r, j, h => by
    simp only [List.dropLast_cons_cons, List.mem_cons, not_or] at h
    simp only [fol, if_neg h.1]
    exact fol_off h.2

theorem fol_weight (hw : ∀ j, j < n → w j j = 0) : ∀ {q : List Nat}, (∀ x ∈ q, x < n) → q.dropLast.Nodup → Sm n (fun j => w j (fol q j)) = pw w q
  | [], _, _ => Sm.nil fun j hj => hw j hj
  | [_], _, _ => Sm.nil fun j hj => hw j hj
  | x :: y :: r, hq, hd => by
    simp only [List.dropLast_cons_cons, List.nodup_cons] at hd
    have ih := fol_weight (q := y :: r) hw (fun z hz => hq z (by simp [hz])) hd.2
    have hx : x < n := hq x (by simp)
    rw [Sm.differ (h := fun j => w j (fol (y :: r) j)) hx (fun i _ hne => by simp only [fol, if_neg hne]), ih]
    have e1 : fol (x :: y :: r) x = y := by simp [fol]
    rw [e1, fol_off hd.1, hw x hx]
    simp only [pw]
    omega

theorem fol_mem : ∀ {q : List Nat} {j : Nat}, j ∈ q.dropLast → fol q j ∈ q.tail
  | [], _, h => by simp at h
  | [_], _, h => by simp at h
  | x :: y :: r, j, h => by
    simp only [List.dropLast_cons_cons, List.mem_cons] at h
    simp only [fol]
    split
    · simp
    · rename_i hne
      have := fol_mem (q := y :: r) (h.resolve_left hne)
      simp only [List.tail_cons] at this ⊢
      exact List.mem_cons_of_mem _ this

/-- Two nodes do not go to one, where the nodes that are gone to are apart. -/
theorem fol_inj : ∀ {q : List Nat}, q.dropLast.Nodup → q.tail.Nodup → ∀ {i j : Nat}, i ∈ q.dropLast → j ∈ q.dropLast → fol q i = fol q j → i = j
  | [], _, _, _, _, h, _, _ => by simp at h
  | [_], _, _, _, _, h, _, _ => by simp at h
  | x :: y :: r, hd, ht, i, j, hi, hj, e => by
    simp only [List.dropLast_cons_cons, List.nodup_cons, List.mem_cons] at hd hi hj
    simp only [List.tail_cons, List.nodup_cons] at ht
    simp only [fol] at e
    by_cases e1 : i = x
    · by_cases e2 : j = x
      · rw [e1, e2]
      · rw [if_pos e1, if_neg e2] at e
        have := fol_mem (q := y :: r) (hj.resolve_left e2)
        rw [← e] at this
        exact absurd this ht.1
    · by_cases e2 : j = x
      · rw [if_neg e1, if_pos e2] at e
        have := fol_mem (q := y :: r) (hi.resolve_left e1)
        rw [e] at this
        exact absurd this ht.1
      · rw [if_neg e1, if_neg e2] at e
        exact fol_inj (q := y :: r) hd.2 ht.2 (hi.resolve_left e1) (hj.resolve_left e2) e

/-- A simple circle is an assignment. -/
theorem circle_asg {x : Nat} {l : List Nat} (hl : ∀ y ∈ x :: l, y < n) (hd : (x :: l).Nodup) : Asg n (fol (x :: l ++ [x])) := by
  have hdl : (x :: l ++ [x]).dropLast = x :: l := List.dropLast_concat
  have htl : (x :: l ++ [x]).tail = l ++ [x] := rfl
  have htn : (x :: l ++ [x]).tail.Nodup := by
    rw [htl]
    rw [List.nodup_append]
    rw [List.nodup_cons] at hd
    exact ⟨hd.2, by simp, by intro a ha b hb; simp at hb; subst hb; intro e; subst e; exact hd.1 ha⟩
  have hmem : ∀ y, y ∈ l ++ [x] → y ∈ x :: l := fun y hy => by simp at hy ⊢; exact hy.symm
  refine ⟨fun i hi => ?_, fun i j hi hj e => ?_⟩
  · by_cases h : i ∈ x :: l
    · exact hl _ (hmem _ (by have := fol_mem (q := x :: l ++ [x]) (j := i) (by rw [hdl]; exact h); rwa [htl] at this))
    · rw [fol_off (by rw [hdl]; exact h)]; exact hi
  · by_cases h1 : i ∈ x :: l
    · by_cases h2 : j ∈ x :: l
      · exact fol_inj (by rw [hdl]; exact hd) htn (by rw [hdl]; exact h1) (by rw [hdl]; exact h2) e
      · rw [fol_off (q := x :: l ++ [x]) (j := j) (by rw [hdl]; exact h2)] at e
        have := fol_mem (q := x :: l ++ [x]) (j := i) (by rw [hdl]; exact h1)
        rw [e, htl] at this
        exact absurd (hmem _ this) h2
    · by_cases h2 : j ∈ x :: l
      · rw [fol_off (q := x :: l ++ [x]) (j := i) (by rw [hdl]; exact h1)] at e
        have := fol_mem (q := x :: l ++ [x]) (j := j) (by rw [hdl]; exact h2)
        rw [← e, htl] at this
        exact absurd (hmem _ this) h1
      · rw [fol_off (q := x :: l ++ [x]) (j := i) (by rw [hdl]; exact h1), fol_off (q := x :: l ++ [x]) (j := j) (by rw [hdl]; exact h2)] at e
        exact e

theorem dup_split : ∀ {l : List Nat}, ¬ l.Nodup → ∃ A y B D, l = A ++ y :: (B ++ y :: D)
  | [], h => absurd List.nodup_nil h
  | x :: l, h => by
    by_cases hx : x ∈ l
    · obtain ⟨B, D, rfl⟩ := List.append_of_mem hx
      exact ⟨[], x, B, D, rfl⟩
    · obtain ⟨A, y, B, D, rfl⟩ := dup_split (l := l) fun hl => h (List.nodup_cons.2 ⟨hx, hl⟩)
      exact ⟨x :: A, y, B, D, rfl⟩

/-- If no simple circle gains, no closed walk gains. -/
theorem closed_walk (hs : ∀ x l, (∀ y ∈ x :: l, y < n) → (x :: l).Nodup → pw w (x :: l ++ [x]) ≤ 0) : ∀ (m : Nat) (x : Nat) (l : List Nat), l.length ≤ m → (∀ y ∈ x :: l, y < n) → pw w (x :: l ++ [x]) ≤ 0 := by
  intro m
  induction m with
  | zero =>
    intro x l hl hn
    have : l = [] := List.length_eq_zero_iff.1 (by omega)
    subst this
    exact hs x [] hn (by simp)
  | succ m ih =>
    intro x l hl hn
    by_cases hd : (x :: l).Nodup
    · exact hs x l hn hd
    · obtain ⟨A, y, B, D, e⟩ := dup_split hd
      have e2 : x :: l ++ [x] = A ++ y :: (B ++ y :: (D ++ [x])) := by rw [e]; simp
      have h1 : pw w (x :: l ++ [x]) = pw w (A ++ [y]) + (pw w (y :: B ++ [y]) + pw w (y :: (D ++ [x]))) := by
        rw [e2, pw_app]
        have := pw_app w (y :: B) y (D ++ [x])
        simp only [List.cons_append] at this ⊢
        rw [this]
      have hlen : l.length + 1 = A.length + (B.length + D.length + 2) := by
        have := congrArg List.length e
        simp at this
        omega
      have hB : pw w (y :: B ++ [y]) ≤ 0 := ih y B (by omega) fun z hz => hn z (by rw [e]; simp at hz ⊢; rcases hz with rfl | hz <;> simp [*])
      have hr : pw w (A ++ [y]) + pw w (y :: (D ++ [x])) ≤ 0 := by
        rw [← pw_app]
        cases A with
        | nil =>
          simp only [List.nil_append, List.cons.injEq] at e
          obtain ⟨rfl, rfl⟩ := e
          exact ih x D (by simp at hl; omega) fun z hz => hn z (by simp at hz ⊢; rcases hz with rfl | hz <;> simp [*])
        | cons a A =>
          simp only [List.cons_append, List.cons.injEq] at e
          obtain ⟨rfl, rfl⟩ := e
          have := ih x (A ++ y :: D) (by simp at hl ⊢; omega) fun z hz => hn z (by simp at hz ⊢; rcases hz with h | h | h | h <;> simp [h])
          simpa using this
      omega

end Go.Proofs.Ytfgnjndicidpkaa
