/- The search for the best assignment, without any program. -/
import Derived.Test.YtfgnjndicidpkaaSD
namespace Go.Proofs.Ytfgnjndicidpkaa

/-- An assignment as a list. -/
def asgOf (b : List Int) (k : Nat) : Nat := (b.getD k 0).toNat
structure AsgL (n : Nat) (b : List Int) : Prop where
  len : b.length = n
  nonneg : ∀ k, k < n → 0 ≤ b.getD k 0
  asg : Asg n (asgOf b)

/-- The first agents have these items. -/
structure Pre (M : List (List Int)) (pre : List Int) (used : List Bool) (sum : Int) : Prop where
  le : pre.length ≤ M.length
  range : ∀ k, k < pre.length → 0 ≤ pre.getD k 0 ∧ pre.getD k 0 < M.length
  inj : ∀ i j, i < pre.length → j < pre.length → pre.getD i 0 = pre.getD j 0 → i = j
  six : used.length = 6
  used : ∀ j : Nat, j < M.length → (used.getD j false = true ↔ (j : Int) ∈ pre)
  sum : sum = Sm pre.length (fun k => matM M k (asgOf pre k))

def Ext (n : Nat) (pre : List Int) (x : Nat → Nat) : Prop := Asg n x ∧ ∀ k, k < pre.length → (x k : Int) = pre.getD k 0

def BestOk (M : List (List Int)) (best : Option (List Int)) (most : Int) : Prop := ∀ b, best = some b → AsgL M.length b ∧ most = valOf M.length (matM M) (asgOf b)
/-- What is best among so many. -/
structure Found (M : List (List Int)) (A : (Nat → Nat) → Prop) (best : Option (List Int)) (most : Int) (best' : Option (List Int)) (most' : Int) : Prop where
  ok : BestOk M best' most'
  all : ∀ x, A x → ∃ b, best' = some b ∧ valOf M.length (matM M) x ≤ most'
  more : ∀ b, best = some b → ∃ b', best' = some b' ∧ most ≤ most'

variable {M : List (List Int)} {pre : List Int} {used : List Bool} {sum most : Int} {best : Option (List Int)}

theorem getD_app1 {a b : List Int} {i : Nat} (h : i < a.length) : (a ++ b).getD i 0 = a.getD i 0 := by simp [List.getD, List.getElem?_append_left h]
theorem getD_app2 {a : List Int} {x : Int} : (a ++ [x]).getD a.length 0 = x := by simp [List.getD]

theorem mem_getD {l : List Int} {x : Int} : x ∈ l ↔ ∃ k, k < l.length ∧ l.getD k 0 = x := by
  constructor
  · intro h
    obtain ⟨k, hk, rfl⟩ := List.getElem_of_mem h
    exact ⟨k, hk, by simp [List.getD, hk]⟩
  · rintro ⟨k, hk, rfl⟩
    simp only [List.getD, List.getElem?_eq_getElem hk, Option.getD_some]
    exact List.getElem_mem hk

theorem Pre.bound (hB : Bids M) (h : Pre M pre used sum) : 0 ≤ sum ∧ sum ≤ 6000000 := by
  have hle := h.le
  have hm := hB.most
  have key : ∀ k, k ≤ pre.length → 0 ≤ Sm k (fun k => matM M k (asgOf pre k)) ∧ Sm k (fun k => matM M k (asgOf pre k)) ≤ k * 1000000 := by
    intro k
    induction k with
    | zero => intro _; simp [Sm]
    | succ k ih =>
      intro hk
      have h1 := ih (by omega)
      have h2 := h.range k (by omega)
      have h3 := hB.range k (asgOf pre k) (by omega) (by unfold asgOf; omega)
      simp only [Sm]
      omega
  have := key pre.length (Nat.le_refl _)
  rw [h.sum]
  omega

theorem Pre.done (h : Pre M pre used sum) (hn : pre.length = M.length) : AsgL M.length pre ∧ sum = valOf M.length (matM M) (asgOf pre) := by
  refine ⟨⟨hn, fun k hk => (h.range k (by omega)).1, ⟨fun i hi => ?_, fun i j hi hj e => ?_⟩⟩, by rw [h.sum, hn]; rfl⟩
  · have := h.range i (by omega)
    unfold asgOf; omega
  · have h1 := h.range i (by omega)
    have h2 := h.range j (by omega)
    unfold asgOf at e
    exact h.inj i j (by omega) (by omega) (by omega)

theorem Ext.done {x : Nat → Nat} (hn : pre.length = M.length) (hx : Ext M.length pre x) : valOf M.length (matM M) x = valOf M.length (matM M) (asgOf pre) := Sm.congr fun k hk => by
  have := hx.2 k (by omega)
  have e : x k = asgOf pre k := by unfold asgOf; omega
  rw [e]

/-- One item more. -/
theorem Pre.step (h : Pre M pre used sum) (hlt : pre.length < M.length) (hm : M.length ≤ 6) {j : Nat} (hj : j < M.length) (hu : used.getD j false = false) : Pre M (pre ++ [(j : Int)]) (used.set j true) (sum + matM M pre.length j) := by
  have hnot : (j : Int) ∉ pre := fun e => by rw [(h.used j hj).2 e] at hu; cases hu
  refine ⟨by simp; omega, fun k hk => ?_, fun i k hi hk e => ?_, by simp [h.six], fun k hk => ?_, ?_⟩
  · simp at hk
    by_cases e : k < pre.length
    · rw [getD_app1 e]; exact h.range k e
    · have : k = pre.length := by omega
      subst this; rw [getD_app2]; omega
  · simp at hi hk
    by_cases e1 : i < pre.length
    · by_cases e2 : k < pre.length
      · rw [getD_app1 e1, getD_app1 e2] at e; exact h.inj i k e1 e2 e
      · have : k = pre.length := by omega
        subst this
        rw [getD_app1 e1, getD_app2] at e
        exact absurd (mem_getD.2 ⟨i, e1, e⟩) hnot
    · have : i = pre.length := by omega
      subst this
      by_cases e2 : k < pre.length
      · rw [getD_app1 e2, getD_app2] at e
        exact absurd (mem_getD.2 ⟨k, e2, e.symm⟩) hnot
      · omega
  · rw [getD_set (by rw [h.six]; omega)]
    by_cases e : j = k
    · subst e; simp
    · rw [if_neg e, h.used k hk]
      simp
      omega
  · have e1 : (pre ++ [(j : Int)]).length = pre.length + 1 := by simp
    rw [e1]
    show sum + _ = Sm pre.length _ + matM M pre.length (asgOf (pre ++ [(j : Int)]) pre.length)
    have e2 : asgOf (pre ++ [(j : Int)]) pre.length = j := by unfold asgOf; rw [getD_app2]; omega
    rw [e2, h.sum]
    congr 1
    exact Sm.congr fun k hk => by unfold asgOf; rw [getD_app1 hk]

theorem used_back (h : Pre M pre used sum) (hm : M.length ≤ 6) {j : Nat} (hj : j < M.length) (hu : used.getD j false = false) : (used.set j true).set j false = used := by
  have hl := h.six
  rw [List.set_set]
  refine List.ext_getElem (by simp) fun k h1 h2 => ?_
  rw [List.getElem_set]
  split
  · rename_i e
    subst e
    simpa [List.getD, h2] using hu.symm
  · rfl

theorem Found.refl (hb : BestOk M best most) : Found M (fun _ => False) best most best most := ⟨hb, fun _ h => h.elim, fun b h => ⟨b, h, Int.le_refl _⟩⟩
theorem Found.then {A B : (Nat → Nat) → Prop} {b1 b2 : Option (List Int)} {m1 m2 : Int} (h1 : Found M A best most b1 m1) (h2 : Found M B b1 m1 b2 m2) : Found M (fun x => A x ∨ B x) best most b2 m2 := by
  refine ⟨h2.ok, fun x hx => ?_, fun b hb => ?_⟩
  · rcases hx with hx | hx
    · obtain ⟨b, hb, hle⟩ := h1.all x hx
      obtain ⟨b', hb', hle'⟩ := h2.more b hb
      exact ⟨b', hb', by omega⟩
    · exact h2.all x hx
  · obtain ⟨b', hb', hle⟩ := h1.more b hb
    obtain ⟨b'', hb'', hle'⟩ := h2.more b' hb'
    exact ⟨b'', hb'', by omega⟩
theorem Found.less {A B : (Nat → Nat) → Prop} {b1 : Option (List Int)} {m1 : Int} (h1 : Found M A best most b1 m1) (h : ∀ x, B x → A x) : Found M B best most b1 m1 := ⟨h1.ok, fun x hx => h1.all x (h x hx), h1.more⟩

/-- All are assigned: a better one is kept. -/
theorem found_new (h : Pre M pre used sum) (hn : pre.length = M.length) (hb : BestOk M best most) (hc : best = none ∨ sum > most) : Found M (Ext M.length pre) best most (some pre) sum := by
  obtain ⟨h1, h2⟩ := h.done hn
  refine ⟨fun b e => by cases e; exact ⟨h1, h2⟩, fun x hx => ⟨pre, rfl, by rw [Ext.done hn hx, h2]; exact Int.le_refl _⟩, fun b e => ⟨pre, rfl, ?_⟩⟩
  rcases hc with hc | hc
  · rw [hc] at e; cases e
  · omega
theorem found_old (h : Pre M pre used sum) (hn : pre.length = M.length) (hb : BestOk M best most) (hc : best ≠ none) (hs : ¬ sum > most) : Found M (Ext M.length pre) best most best most := by
  obtain ⟨h1, h2⟩ := h.done hn
  refine ⟨hb, fun x hx => ?_, fun b e => ⟨b, e, Int.le_refl _⟩⟩
  cases best with
  | none => exact absurd rfl hc
  | some b => exact ⟨b, rfl, by rw [Ext.done hn hx]; omega⟩

/-- The completions in which the next agent has one of the first items. -/
def upTo (n : Nat) (pre : List Int) (J : Nat) (x : Nat → Nat) : Prop := Ext n pre x ∧ x pre.length < J
theorem upTo_step {n : Nat} {J : Nat} {x : Nat → Nat} (hx : upTo n pre (J + 1) x) : upTo n pre J x ∨ Ext n (pre ++ [(J : Int)]) x := by
  obtain ⟨h1, h2⟩ := hx
  by_cases e : x pre.length < J
  · exact .inl ⟨h1, e⟩
  · refine .inr ⟨h1.1, fun k hk => ?_⟩
    simp at hk
    by_cases e2 : k < pre.length
    · rw [getD_app1 e2]; exact h1.2 k e2
    · have : k = pre.length := by omega
      subst this; rw [getD_app2]; omega
/-- Nobody has what is used. -/
theorem upTo_used (h : Pre M pre used sum) (hlt : pre.length < M.length) {J : Nat} (hJ : J < M.length) (hu : used.getD J false = true) {x : Nat → Nat} (hx : upTo M.length pre (J + 1) x) : upTo M.length pre J x := by
  obtain ⟨h1, h2⟩ := hx
  refine ⟨h1, ?_⟩
  obtain ⟨k, hk, e⟩ := mem_getD.1 ((h.used J hJ).1 hu)
  have e1 := h1.2 k hk
  have e2 : x k = J := by omega
  by_cases e3 : x pre.length = J
  · have := h1.1.inj _ _ (by omega) hlt (e2.trans e3.symm)
    omega
  · omega

end Go.Proofs.Ytfgnjndicidpkaa
