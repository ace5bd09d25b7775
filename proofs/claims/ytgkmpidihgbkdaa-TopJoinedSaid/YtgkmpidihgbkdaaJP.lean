/- The search for what is reached in the rest of a flow, without any program. -/
import Derived.Test.YtgkmpidihgbkdaaJN
namespace Go.Proofs.Ytgkmpidihgbkdaa

def unseen : List Bool → Nat
  | [] => 0
  | b :: l => (if b then 0 else 1) + unseen l
theorem unseen_set : ∀ {l : List Bool} {i : Nat}, i < l.length → l.getD i false = false → unseen (l.set i true) + 1 = unseen l
  | [], _, h, _ => by simp at h
  | b :: l, 0, _, h => by
    have : b = false := by simpa [List.getD] using h
    subst this
    simp [unseen]; omega
  | b :: l, i + 1, h, h2 => by
    have := unseen_set (l := l) (i := i) (by simpa using h) (by simpa [List.getD] using h2)
    simp only [List.set_cons_succ, unseen]
    omega
theorem unseen_le : ∀ {l : List Bool}, unseen l ≤ l.length
  | [] => Nat.le_refl _
  | b :: l => by
    have := unseen_le (l := l)
    simp only [unseen, List.length_cons]
    split <;> omega

theorem inB_set {bs : List Bool} {w : Int} {u : Int} (hw : 0 ≤ w) (hw2 : w.toNat < bs.length) (hu : 0 ≤ u) : inB (bs.set w.toNat true) u = (decide (u = w) || inB bs u) := by
  unfold inB
  simp only [List.getD, List.getElem?_set]
  by_cases e : u = w
  · subst e; simp [hw2]
  · rw [if_neg (by omega)]; simp [e]

/-- The arcs ahead of an index lead from a node only to nodes that are out. -/
def Good (l : List Arc) (x : Nat → Int) (i : Nat) (u : Int) (out : Int → Bool) : Prop := ∀ j, j < i → j < l.length → ((arcAt l j).fr = u → x j < (arcAt l j).cap → out (arcAt l j).to = true) ∧ ((arcAt l j).to = u → 0 < x j → out (arcAt l j).fr = true)

structure Rs (N : Int) (l : List Arc) (x : Nat → Int) (out : List Bool) (stk : List Int) (m : Nat) : Prop where
  len : out.length = N.toNat
  zero : inB out 0 = true
  held : ∀ u ∈ stk, 0 ≤ u ∧ u < N ∧ inB out u = true
  sound : ∀ T : Int → Bool, T 0 = true → Closed l x 0 1 T → ∀ u, 0 ≤ u → u < N → inB out u = true → T u = true
  cnt : 2 * unseen out + stk.length ≤ m

def Comp (N : Int) (l : List Arc) (x : Nat → Int) (out : List Bool) (stk : List Int) : Prop := ∀ u, 0 ≤ u → u < N → inB out u = true → u ∈ stk ∨ Good l x l.length u (inB out)
def CompI (N : Int) (l : List Arc) (x : Nat → Int) (v : Int) (i : Nat) (out : List Bool) (stk : List Int) : Prop := (0 ≤ v ∧ v < N ∧ inB out v = true) ∧ Good l x i v (inB out) ∧ ∀ u, 0 ≤ u → u < N → inB out u = true → u ∈ stk ∨ u = v ∨ Good l x l.length u (inB out)

theorem Good.grow {l : List Arc} {x : Nat → Int} {i : Nat} {u : Int} {o o' : Int → Bool} (h : Good l x i u o) (ho : ∀ j, j < l.length → (o (arcAt l j).to = true → o' (arcAt l j).to = true) ∧ (o (arcAt l j).fr = true → o' (arcAt l j).fr = true)) : Good l x i u o' := fun j hj hl =>
  ⟨fun h1 h2 => (ho j hl).1 ((h j hj hl).1 h1 h2), fun h1 h2 => (ho j hl).2 ((h j hj hl).2 h1 h2)⟩

theorem Rs.init {N : Int} {l : List Arc} {x : Nat → Int} (h : 2 ≤ N) : Rs N l x ((List.replicate N.toNat false).set 0 true) [0] (2 * N.toNat) ∧ Comp N l x ((List.replicate N.toNat false).set 0 true) [0] := by
  have hin : ∀ u, 0 ≤ u → inB ((List.replicate N.toNat false).set 0 true) u = decide (u = 0) := by
    intro u hu
    have := inB_set (bs := List.replicate N.toNat false) (w := 0) (u := u) (by omega) (by simp; omega) hu
    simp only [Int.toNat_zero] at this
    rw [this]
    simp only [inB, List.getD, List.getElem?_replicate]
    split <;> simp
  have hc := unseen_set (l := List.replicate N.toNat false) (i := 0) (by simp; omega) (by simp [List.getD, List.getElem?_replicate]; split <;> rfl)
  have hl := unseen_le (l := List.replicate N.toNat false)
  simp only [List.length_replicate] at hl
  refine ⟨⟨by simp, by rw [hin 0 (by omega)]; rfl, ?_, ?_, ?_⟩, ?_⟩
  · intro u hu
    simp only [List.mem_singleton] at hu
    subst hu
    exact ⟨by omega, by omega, by rw [hin 0 (by omega)]; rfl⟩
  · intro T h0 _ u hu _ hou
    rw [hin u hu] at hou
    simp at hou
    subst hou; exact h0
  · simp only [List.length_singleton]; omega
  · intro u hu _ hou
    rw [hin u hu] at hou
    simp at hou
    exact .inl (by simp [hou])

theorem Rs.pop {N : Int} {l : List Arc} {x : Nat → Int} {out : List Bool} {stk : List Int} {m : Nat} (h : Rs N l x out stk m) (hc : Comp N l x out stk) (hs : 0 < stk.length) :
    Rs N l x out (stk.take (stk.length - 1)) (m - 1) ∧ CompI N l x (stk.getD (stk.length - 1) 0) 0 out (stk.take (stk.length - 1)) ∧ 0 < m := by
  have hm : ∀ u ∈ stk, u ∈ stk.take (stk.length - 1) ∨ u = stk.getD (stk.length - 1) 0 := by
    intro u hu
    obtain ⟨i, hi, rfl⟩ := List.getElem_of_mem hu
    by_cases e : i = stk.length - 1
    · right
      simp only [List.getD]
      rw [List.getElem?_eq_getElem (by omega)]
      simp [e]
    · left
      rw [List.mem_take_iff_getElem]
      exact ⟨i, by omega, rfl⟩
  have hv : stk.getD (stk.length - 1) 0 ∈ stk := by
    simp only [List.getD]
    rw [List.getElem?_eq_getElem (by omega)]
    exact List.getElem_mem _
  have hcnt := h.cnt
  refine ⟨⟨h.len, h.zero, fun u hu => h.held u (List.mem_of_mem_take hu), h.sound, ?_⟩, ⟨h.held _ hv, fun j hj => by omega, fun u h0 h1 h2 => ?_⟩, by omega⟩
  · simp; omega
  · rcases hc u h0 h1 h2 with h3 | h3
    · rcases hm u h3 with h4 | h4
      · exact .inl h4
      · exact .inr (.inl h4)
    · exact .inr (.inr h3)

theorem CompI.done {N : Int} {l : List Arc} {x : Nat → Int} {v : Int} {out : List Bool} {stk : List Int} (h : CompI N l x v l.length out stk) : Comp N l x out stk := fun u h0 h1 h2 => by
  rcases h.2.2 u h0 h1 h2 with h3 | h3 | h3
  · exact .inl h3
  · exact .inr (h3 ▸ h.2.1)
  · exact .inr h3

/-- Where an arc leads to, in the rest. -/
def Leads (a : Arc) (x v w : Int) : Prop := (w = -1 ∧ ¬ (a.fr = v ∧ x < a.cap) ∧ ¬ (a.to = v ∧ 0 < x)) ∨ (w = a.to ∧ a.fr = v ∧ x < a.cap) ∨ (w = a.fr ∧ a.to = v ∧ 0 < x)

theorem CompI.next {N : Int} {l : List Arc} {x : Nat → Int} {v : Int} {i : Nat} {out : List Bool} {stk : List Int} {w : Int} (h : CompI N l x v i out stk) (hok : NetOk N l) (hi : i < l.length) (hw : Leads (arcAt l i) (x i) v w) (hseen : 0 ≤ w → inB out w = true) : CompI N l x v (i + 1) out stk := by
  obtain ⟨a1, a2, a3, a4, a5, _⟩ := hok.arc i hi
  refine ⟨h.1, fun j hj hl => ?_, h.2.2⟩
  by_cases e : j = i
  · subst e
    rcases hw with ⟨_, h1, h2⟩ | ⟨rfl, h1, h2⟩ | ⟨rfl, h1, h2⟩
    · exact ⟨fun e1 e2 => absurd ⟨e1, e2⟩ h1, fun e1 e2 => absurd ⟨e1, e2⟩ h2⟩
    · exact ⟨fun _ _ => hseen a3, fun e1 _ => absurd (h1.trans e1.symm) a5⟩
    · exact ⟨fun e1 _ => absurd (e1.trans h1.symm) a5, fun _ _ => hseen a1⟩
  · exact h.2.1 j (by omega) hl

theorem CompI.new {N : Int} {l : List Arc} {x : Nat → Int} {v : Int} {i : Nat} {out : List Bool} {stk : List Int} {w : Int} {m : Nat} (hr : Rs N l x out stk m) (h : CompI N l x v i out stk) (hok : NetOk N l) (hi : i < l.length) (hw : Leads (arcAt l i) (x i) v w) (hw0 : 0 ≤ w) (hseen : inB out w = false) :
    w < N ∧ Rs N l x (out.set w.toNat true) (stk ++ [w]) m ∧ CompI N l x v (i + 1) (out.set w.toNat true) (stk ++ [w]) := by
  obtain ⟨a1, a2, a3, a4, a5, _⟩ := hok.arc i hi
  have hwN : w < N := by rcases hw with ⟨h1, _⟩ | ⟨h1, _⟩ | ⟨h1, _⟩ <;> omega
  have hlen := hr.len
  have hwl : w.toNat < out.length := by omega
  have hset : ∀ u, 0 ≤ u → inB (out.set w.toNat true) u = (decide (u = w) || inB out u) := fun u hu => inB_set hw0 hwl hu
  have hmono : ∀ j, j < l.length → (inB out (arcAt l j).to = true → inB (out.set w.toNat true) (arcAt l j).to = true) ∧ (inB out (arcAt l j).fr = true → inB (out.set w.toNat true) (arcAt l j).fr = true) := fun j hj => by
    obtain ⟨b1, _, b3, _⟩ := hok.arc j hj
    rw [hset _ b1, hset _ b3]
    exact ⟨fun e => by rw [e]; simp, fun e => by rw [e]; simp⟩
  have hcount := unseen_set (l := out) (i := w.toNat) hwl hseen
  have hcnt := hr.cnt
  refine ⟨hwN, ⟨by simp [hlen], by rw [hset 0 (by omega), hr.zero]; simp, ?_, ?_, by simp; omega⟩, ?_⟩
  · intro u hu
    rcases List.mem_append.1 hu with hu | hu
    · obtain ⟨h1, h2, h3⟩ := hr.held u hu
      exact ⟨h1, h2, by rw [hset u h1, h3]; simp⟩
    · simp only [List.mem_singleton] at hu
      subst hu
      exact ⟨hw0, hwN, by rw [hset _ hw0]; simp⟩
  · intro T h0 hT u hu0 huN hou
    rw [hset u hu0] at hou
    by_cases e : u = w
    · subst e
      have hTv := hr.sound T h0 hT v h.1.1 h.1.2.1 h.1.2.2
      obtain ⟨h3, h4⟩ := hT i (Nat.zero_le _) hi
      rcases hw with ⟨h1, _⟩ | ⟨rfl, rfl, h2⟩ | ⟨rfl, rfl, h2⟩
      · omega
      · cases hTw : T (arcAt l i).to with
        | true => rfl
        | false => have := h3 hTv hTw; omega
      · cases hTw : T (arcAt l i).fr with
        | true => rfl
        | false => have := h4 hTv hTw; omega
    · have : inB out u = true := by simpa [e] using hou
      exact hr.sound T h0 hT u hu0 huN this
  · have h5 : CompI N l x v i (out.set w.toNat true) (stk ++ [w]) := by
      refine ⟨⟨h.1.1, h.1.2.1, by rw [hset v h.1.1, h.1.2.2]; simp⟩, h.2.1.grow hmono, fun u hu0 huN hou => ?_⟩
      rw [hset u hu0] at hou
      by_cases e : u = w
      · exact .inl (by simp [e])
      · have : inB out u = true := by simpa [e] using hou
        rcases h.2.2 u hu0 huN this with h6 | h6 | h6
        · exact .inl (by simp [h6])
        · exact .inr (.inl h6)
        · exact .inr (.inr (h6.grow hmono))
    exact h5.next hok hi hw fun _ => by rw [hset w hw0]; simp

/-- When nothing waits any more: the least closed set. -/
theorem Rs.closed {N : Int} {l : List Arc} {x : Nat → Int} {out : List Bool} (hok : NetOk N l) (hc : Comp N l x out []) : Closed l x 0 1 (inB out) := by
  intro i _ hi
  obtain ⟨a1, a2, a3, a4, a5, _⟩ := hok.arc i hi
  constructor
  · intro h1 h2
    have h3 := (hc _ a1 a2 h1).resolve_left (by simp)
    by_cases e : x i < (arcAt l i).cap
    · have := (h3 i hi hi).1 rfl e
      rw [h2] at this; cases this
    · omega
  · intro h1 h2
    have h3 := (hc _ a3 a4 h1).resolve_left (by simp)
    by_cases e : 0 < x i
    · have := (h3 i hi hi).2 rfl e
      rw [h2] at this; cases this
    · omega

/-- The least side of a flow. -/
structure IsLeast (N : Int) (l : List Arc) (x : Nat → Int) (out : List Bool) : Prop where
  len : out.length = N.toNat
  zero : inB out 0 = true
  closed : Closed l x 0 1 (inB out)
  least : ∀ T : Int → Bool, T 0 = true → Closed l x 0 1 T → ∀ u, 0 ≤ u → u < N → inB out u = true → T u = true

end Go.Proofs.Ytgkmpidihgbkdaa
