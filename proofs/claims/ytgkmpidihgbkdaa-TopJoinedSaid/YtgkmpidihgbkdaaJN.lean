/- Networks and flows, without any program: sums, what comes into nodes, sets of nodes, cuts. -/
import Derived.Test.YtgkmpidihgbkdaaJR
namespace Go.Proofs.Ytgkmpidihgbkdaa

/-! ### Sums -/

def Sm : Nat → (Nat → Int) → Int
  | 0, _ => 0
  | n + 1, h => Sm n h + h n

theorem Sm.congr : ∀ {n : Nat} {g h : Nat → Int}, (∀ i, i < n → g i = h i) → Sm n g = Sm n h
  | 0, _, _, _ => rfl
  | n + 1, g, h, e => by rw [Sm, Sm, Sm.congr (fun i hi => e i (by omega)), e n (by omega)]
theorem Sm.zero : ∀ {n : Nat}, Sm n (fun _ => 0) = 0
  | 0 => rfl
  | n + 1 => by rw [Sm, Sm.zero]; rfl
theorem Sm.nil {n : Nat} {h : Nat → Int} (e : ∀ i, i < n → h i = 0) : Sm n h = 0 := (Sm.congr e).trans Sm.zero
theorem Sm.add : ∀ {n : Nat} {g h : Nat → Int}, Sm n (fun i => g i + h i) = Sm n g + Sm n h
  | 0, _, _ => rfl
  | n + 1, g, h => by rw [Sm, Sm, Sm, Sm.add]; omega
theorem Sm.sub : ∀ {n : Nat} {g h : Nat → Int}, Sm n (fun i => g i - h i) = Sm n g - Sm n h
  | 0, _, _ => rfl
  | n + 1, g, h => by rw [Sm, Sm, Sm, Sm.sub]; omega
theorem Sm.le : ∀ {n : Nat} {g h : Nat → Int}, (∀ i, i < n → g i ≤ h i) → Sm n g ≤ Sm n h
  | 0, _, _, _ => by simp [Sm]
  | n + 1, g, h, e => by
    have h1 := Sm.le (n := n) (g := g) (h := h) (fun i hi => e i (by omega))
    have h2 := e n (by omega)
    simp only [Sm]; omega
/-- Sums that are equal, of terms none of which is greater. -/
theorem Sm.tight : ∀ {n : Nat} {g h : Nat → Int}, (∀ i, i < n → g i ≤ h i) → Sm n h ≤ Sm n g → ∀ i, i < n → g i = h i
  | 0, _, _, _, _ => by intro i hi; omega
  | n + 1, g, h, e, hs => by
    intro i hi
    have h1 := Sm.le (n := n) (g := g) (h := h) (fun i hi => e i (by omega))
    have h2 := e n (by omega)
    simp only [Sm] at hs
    by_cases hin : i = n
    · subst hin; omega
    · exact Sm.tight (n := n) (g := g) (h := h) (fun i hi => e i (by omega)) (by omega) i (by omega)
theorem Sm.swap : ∀ {n m : Nat} {g : Nat → Nat → Int}, Sm n (fun i => Sm m (g i)) = Sm m (fun j => Sm n (fun i => g i j))
  | 0, m, g => by simp only [Sm]; exact Sm.zero.symm
  | n + 1, m, g => by rw [Sm, Sm.swap, ← Sm.add]; rfl
theorem Sm.app : ∀ {m n : Nat} {h : Nat → Int}, Sm (n + m) h = Sm n h + Sm m (fun i => h (n + i))
  | 0, n, h => by simp [Sm]
  | m + 1, n, h => by rw [← Nat.add_assoc, Sm, Sm.app, Sm]; omega
/-- One term alone. -/
theorem Sm.one : ∀ {n : Nat} {h : Nat → Int} {k : Nat}, k < n → (∀ i, i < n → i ≠ k → h i = 0) → Sm n h = h k
  | 0, _, _, hk, _ => by omega
  | n + 1, h, k, hk, e => by
    rw [Sm]
    by_cases hkn : k = n
    · subst hkn
      rw [Sm.nil (fun i hi => e i (by omega) (by omega))]; omega
    · rw [Sm.one (k := k) (by omega) (fun i hi hne => e i (by omega) hne), e n (by omega) (Ne.symm hkn)]; omega
/-- The first and the last term alone. -/
theorem Sm.ends {n : Nat} {h : Nat → Int} (e : ∀ i, 0 < i → i < n + 1 → h i = 0) : Sm (n + 2) h = h 0 + h (n + 1) := by
  rw [Sm, Sm.one (k := 0) (by omega) (fun i hi hne => e i (by omega) hi)]
theorem Sm.bound {n : Nat} {h : Nat → Int} {c : Int} (e : ∀ i, i < n → -c ≤ h i ∧ h i ≤ c) : -(n * c) ≤ Sm n h ∧ Sm n h ≤ n * c := by
  induction n with
  | zero => simp [Sm]
  | succ n ih =>
    obtain ⟨h1, h2⟩ := ih (fun i hi => e i (by omega))
    obtain ⟨h3, h4⟩ := e n (by omega)
    simp only [Sm]
    rw [Int.natCast_succ, Int.add_mul, Int.one_mul]
    omega

/-! ### Networks -/

/-- A list's set of nodes. -/
def inB (bs : List Bool) (u : Int) : Bool := bs.getD u.toNat false
/-- A list's amounts. -/
def am (xs : List Int) (i : Nat) : Int := xs.getD i 0



structure NetOk (N : Int) (l : List Arc) : Prop where
  two : 2 ≤ N
  most : N ≤ 40
  len : l.length ≤ 200
  arc : ∀ i, i < l.length → 0 ≤ (arcAt l i).fr ∧ (arcAt l i).fr < N ∧ 0 ≤ (arcAt l i).to ∧ (arcAt l i).to < N ∧ (arcAt l i).fr ≠ (arcAt l i).to ∧ 0 ≤ (arcAt l i).cap ∧ (arcAt l i).cap ≤ 1000000

/-- What comes into a set of nodes, less what goes out; by the first so many arcs. -/
def into (l : List Arc) (x : Nat → Int) (S : Int → Bool) (i : Nat) : Int := (if S (arcAt l i).to then x i else 0) - (if S (arcAt l i).fr then x i else 0)
def pot (l : List Arc) (x : Nat → Int) (S : Int → Bool) : Int := Sm l.length (into l x S)
def only (v : Int) : Int → Bool := fun u => decide (u = v)
def bal (l : List Arc) (x : Nat → Int) (v : Int) : Int := pot l x (only v)

def inRange (l : List Arc) (x : Nat → Int) : Prop := ∀ i, i < l.length → 0 ≤ x i ∧ x i ≤ (arcAt l i).cap
structure IsFlow (N : Int) (l : List Arc) (x : Nat → Int) : Prop where
  range : inRange l x
  kept : ∀ v, 0 < v → v < N - 1 → bal l x v = 0
def val (l : List Arc) (x : Nat → Int) : Int := - bal l x 0
def cutOf (l : List Arc) (S : Int → Bool) : Int := Sm l.length fun i => if S (arcAt l i).fr && !S (arcAt l i).to then (arcAt l i).cap else 0
/-- Source within, sink without. -/
def Side (N : Int) (S : Int → Bool) : Prop := S 0 = true ∧ S (N - 1) = false
/-- Arcs from an index on lead out of a set with less than d left. -/
def Closed (l : List Arc) (x : Nat → Int) (k : Nat) (d : Int) (S : Int → Bool) : Prop := ∀ i, k ≤ i → i < l.length →
  (S (arcAt l i).fr = true → S (arcAt l i).to = false → (arcAt l i).cap - x i < d) ∧ (S (arcAt l i).to = true → S (arcAt l i).fr = false → x i < d)

theorem into_bound {N : Int} {l : List Arc} {x : Nat → Int} {S : Int → Bool} (h : NetOk N l) (hr : inRange l x) : ∀ i, i < l.length → -1000000 ≤ into l x S i ∧ into l x S i ≤ 1000000 := fun i hi => by
  obtain ⟨h1, h2⟩ := hr i hi
  obtain ⟨_, _, _, _, _, _, h3⟩ := h.arc i hi
  unfold into
  split <;> split <;> omega
theorem pot_bound {N : Int} {l : List Arc} {x : Nat → Int} {S : Int → Bool} (h : NetOk N l) (hr : inRange l x) {k : Nat} (hk : k ≤ l.length) : -200000000 ≤ Sm k (into l x S) ∧ Sm k (into l x S) ≤ 200000000 := by
  have := Sm.bound (n := k) (h := into l x S) (c := 1000000) (fun i hi => into_bound h hr i (by omega))
  have := h.len
  omega

theorem pot_nodes {N : Nat} {l : List Arc} {x : Nat → Int} {S : Int → Bool} (ha : ∀ i, i < l.length → 0 ≤ (arcAt l i).fr ∧ (arcAt l i).fr < N ∧ 0 ≤ (arcAt l i).to ∧ (arcAt l i).to < N) :
    pot l x S = Sm N (fun v => if S v then bal l x v else 0) := by
  have e : Sm N (fun v : Nat => if S v then bal l x v else 0) = Sm N (fun v : Nat => Sm l.length fun i => if S v then into l x (only v) i else 0) := by
    refine Sm.congr fun v hv => ?_
    cases hS : S v with
    | true => simp [bal, pot]
    | false => simp [Sm.zero]
  rw [e, Sm.swap]
  refine Sm.congr fun i hi => ?_
  obtain ⟨h1, h2, h3, h4⟩ := ha i hi
  have hsum : ∀ (u : Int), 0 ≤ u → u < N → Sm N (fun v : Nat => if S v then (if decide (u = (v : Int)) then x i else 0) else 0) = if S u then x i else 0 := by
    intro u hu0 hu1
    rw [Sm.one (k := u.toNat) (by omega) (fun v hv hne => by rw [show decide (u = (v : Int)) = false by simp; omega]; simp)]
    rw [show ((u.toNat : Nat) : Int) = u by omega]
    simp
  have e2 : Sm N (fun v : Nat => if S v then into l x (only v) i else 0) = Sm N (fun v : Nat => (if S v then (if decide ((arcAt l i).to = (v : Int)) then x i else 0) else 0) - (if S v then (if decide ((arcAt l i).fr = (v : Int)) then x i else 0) else 0)) := by
    refine Sm.congr fun v hv => ?_
    cases hS : S v <;> simp [into, only]
  rw [e2, Sm.sub, hsum _ h3 h4, hsum _ h1 h2]
  rfl

theorem Ends0 {N : Int} {l : List Arc} (h : NetOk N l) : ∃ n : Nat, N = (n : Int) + 2 := ⟨(N - 2).toNat, by have := h.two; omega⟩

theorem NetOk.nodes {N : Int} {l : List Arc} (h : NetOk N l) {n : Nat} (hn : N = n) : ∀ i, i < l.length → 0 ≤ (arcAt l i).fr ∧ (arcAt l i).fr < n ∧ 0 ≤ (arcAt l i).to ∧ (arcAt l i).to < n := fun i hi => by
  obtain ⟨h1, h2, h3, h4, _⟩ := h.arc i hi
  exact ⟨h1, by omega, h3, by omega⟩

/-- What comes into a set, of a flow. -/
theorem flow_pot {N : Int} {l : List Arc} {x : Nat → Int} (h : NetOk N l) (hk : ∀ v, 0 < v → v < N - 1 → bal l x v = 0) (S : Int → Bool) : pot l x S = (if S 0 then bal l x 0 else 0) + (if S (N - 1) then bal l x (N - 1) else 0) := by
  obtain ⟨n, hn⟩ := Ends0 h
  rw [pot_nodes (N := n + 2) (h.nodes (by omega))]
  rw [Sm.ends (fun i hi hi2 => by rw [hk i (by omega) (by omega)]; simp)]
  have : ((n + 1 : Nat) : Int) = N - 1 := by omega
  rw [this]
  rfl

theorem pot_all {l : List Arc} {x : Nat → Int} : pot l x (fun _ => true) = 0 := Sm.nil fun i _ => by simp [into]

theorem sink_bal {N : Int} {l : List Arc} {x : Nat → Int} (h : NetOk N l) (hk : ∀ v, 0 < v → v < N - 1 → bal l x v = 0) : bal l x (N - 1) = val l x := by
  have := flow_pot h hk (fun _ => true)
  rw [pot_all] at this
  simp only [if_true] at this
  unfold val; omega

/-- A flow's value is what goes out of a side. -/
theorem side_val {N : Int} {l : List Arc} {x : Nat → Int} (h : NetOk N l) (hk : ∀ v, 0 < v → v < N - 1 → bal l x v = 0) {S : Int → Bool} (hS : Side N S) : val l x = Sm l.length (fun i => - into l x S i) := by
  have h1 := flow_pot h hk S
  rw [hS.1, hS.2] at h1
  have h2 : Sm l.length (fun i => - into l x S i) = - pot l x S := by
    have := Sm.sub (n := l.length) (g := fun _ => 0) (h := into l x S)
    simp only [Int.zero_sub, Sm.zero] at this
    exact this
  rw [h2, h1]
  simp [val]

def capOut (l : List Arc) (S : Int → Bool) (i : Nat) : Int := if S (arcAt l i).fr && !S (arcAt l i).to then (arcAt l i).cap else 0

theorem out_le {l : List Arc} {x : Nat → Int} (hr : inRange l x) (S : Int → Bool) : ∀ i, i < l.length → - into l x S i ≤ capOut l S i := fun i hi => by
  obtain ⟨h1, h2⟩ := hr i hi
  unfold into capOut
  cases S (arcAt l i).fr <;> cases S (arcAt l i).to <;> simp <;> omega

theorem val_le_cut {N : Int} {l : List Arc} {x : Nat → Int} (h : NetOk N l) (hf : IsFlow N l x) {S : Int → Bool} (hS : Side N S) : val l x ≤ cutOf l S := by
  rw [side_val h hf.kept hS]
  exact Sm.le (out_le hf.range S)

/-- A cut that is as great as the flow: its side is closed; and the other way round. -/
theorem closed_of_cut {N : Int} {l : List Arc} {x : Nat → Int} (h : NetOk N l) (hf : IsFlow N l x) {S : Int → Bool} (hS : Side N S) (he : cutOf l S ≤ val l x) : Closed l x 0 1 S := by
  rw [side_val h hf.kept hS] at he
  intro i _ hi
  have := Sm.tight (out_le hf.range S) he i hi
  obtain ⟨h1, h2⟩ := hf.range i hi
  unfold into capOut at this
  constructor
  · intro e1 e2; rw [e1, e2] at this; simp at this; omega
  · intro e1 e2; rw [e1, e2] at this; simp at this; omega

theorem cut_of_closed {N : Int} {l : List Arc} {x : Nat → Int} (h : NetOk N l) (hf : IsFlow N l x) {S : Int → Bool} (hS : Side N S) (hc : Closed l x 0 1 S) : val l x = cutOf l S := by
  rw [side_val h hf.kept hS]
  refine Sm.congr fun i hi => ?_
  obtain ⟨h1, h2⟩ := hf.range i hi
  obtain ⟨h3, h4⟩ := hc i (Nat.zero_le _) hi
  unfold into
  cases e1 : S (arcAt l i).fr <;> cases e2 : S (arcAt l i).to <;> simp [e1, e2] at h3 h4 ⊢ <;> omega

end Go.Proofs.Ytgkmpidihgbkdaa
