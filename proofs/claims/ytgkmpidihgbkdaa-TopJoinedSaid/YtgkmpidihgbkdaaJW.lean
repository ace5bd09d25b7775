/- The search for a way, without any program. -/
import Derived.Test.YtgkmpidihgbkdaaJP
namespace Go.Proofs.Ytgkmpidihgbkdaa

/-- One arc's amount is changed. -/
theorem bal_set {l : List Arc} {xs : List Int} {i : Nat} {y : Int} (hl : xs.length = l.length) (hi : i < l.length) (v : Int) : bal l (am (xs.set i (xs.getD i 0 + y))) v = bal l (am xs) v + (if (arcAt l i).to = v then y else 0) - (if (arcAt l i).fr = v then y else 0) := by
  have h1 : bal l (am (xs.set i (xs.getD i 0 + y))) v - bal l (am xs) v = (if (arcAt l i).to = v then y else 0) - (if (arcAt l i).fr = v then y else 0) := by
    unfold bal pot
    rw [← Sm.sub, Sm.one (k := i) hi]
    · simp only [into, only, am]
      rw [getD_set (by omega), if_pos rfl]
      by_cases e1 : (arcAt l i).to = v <;> by_cases e2 : (arcAt l i).fr = v <;> simp [e1, e2] <;> omega
    · intro j hj hne
      simp only [into, only, am]
      rw [getD_set (by omega), if_neg (Ne.symm hne)]
      omega
  omega

/-- So much was moved, by arcs from an index on, none of which touches a seen node. -/
structure Moved (l : List Arc) (k : Nat) (xs : List Int) (S : Int → Bool) (fr to x : Int) (xs' : List Int) : Prop where
  len : xs'.length = xs.length
  range : inRange l (am xs')
  skip : ∀ j, j < k → am xs' j = am xs j
  off : ∀ j, j < l.length → S (arcAt l j).fr = true ∨ S (arcAt l j).to = true → am xs' j = am xs j
  bal : ∀ v, Go.Proofs.Ytgkmpidihgbkdaa.bal l (am xs') v = Go.Proofs.Ytgkmpidihgbkdaa.bal l (am xs) v + (if to = v then x else 0) - (if fr = v then x else 0)

/-- The arcs from an index on lead from a node only to nodes that are seen, or have less than d left. -/
def Shut (l : List Arc) (x : Nat → Int) (k i : Nat) (d : Int) (S : Int → Bool) (u : Int) : Prop := ∀ j, k ≤ j → j < i → j < l.length →
  ((arcAt l j).fr = u → S (arcAt l j).to = false → (arcAt l j).cap - x j < d) ∧ ((arcAt l j).to = u → S (arcAt l j).fr = false → x j < d)

theorem Shut.grow {l : List Arc} {x : Nat → Int} {k i : Nat} {d u : Int} {S S' : Int → Bool} (h : Shut l x k i d S u) (hs : ∀ j, j < l.length → (S (arcAt l j).to = true → S' (arcAt l j).to = true) ∧ (S (arcAt l j).fr = true → S' (arcAt l j).fr = true)) : Shut l x k i d S' u := fun j h1 h2 h3 => by
  refine ⟨fun e1 e2 => (h j h1 h2 h3).1 e1 ?_, fun e1 e2 => (h j h1 h2 h3).2 e1 ?_⟩
  · cases e : S (arcAt l j).to with
    | false => rfl
    | true => rw [(hs j h3).1 e] at e2; cases e2
  · cases e : S (arcAt l j).fr with
    | false => rfl
    | true => rw [(hs j h3).2 e] at e2; cases e2

/-- Nothing was found. -/
structure Searched (N : Int) (l : List Arc) (x : Nat → Int) (k : Nat) (d : Int) (seen : List Bool) (fr to : Int) (seen' : List Bool) : Prop where
  len : seen'.length = seen.length
  more : ∀ u, 0 ≤ u → inB seen u = true → inB seen' u = true
  inFr : inB seen' fr = true
  outTo : inB seen' to = false
  shut : ∀ u, 0 ≤ u → u < N → inB seen' u = true → inB seen u = false → Shut l x k l.length d (inB seen') u
  less : unseen seen' < unseen seen

def WayOk (N : Int) (l : List Arc) (k : Nat) (d : Int) (xs : List Int) (seen : List Bool) (fr to most x : Int) (xs' : List Int) (seen' : List Bool) : Prop :=
  seen'.length = seen.length ∧ ((1 ≤ x ∧ x ≤ most ∧ Moved l k xs (inB seen) fr to x xs') ∨ (x = 0 ∧ xs' = xs ∧ Searched N l (am xs) k d seen fr to seen'))

/-- The search at a node: the arcs ahead of an index were tried in vain. -/
structure Trying (N : Int) (l : List Arc) (x : Nat → Int) (k : Nat) (d : Int) (seen : List Bool) (fr to : Int) (i : Nat) (seen1 : List Bool) : Prop where
  len : seen1.length = seen.length
  more : ∀ u, 0 ≤ u → inB seen u = true → inB seen1 u = true
  inFr : inB seen1 fr = true
  outTo : inB seen1 to = false
  here : Shut l x k i d (inB seen1) fr
  shut : ∀ u, 0 ≤ u → u < N → inB seen1 u = true → inB seen u = false → u ≠ fr → Shut l x k l.length d (inB seen1) u
  less : unseen seen1 < unseen seen

theorem Trying.init {N : Int} {l : List Arc} {x : Nat → Int} {k : Nat} {d : Int} {seen : List Bool} {fr to : Int} (hl : seen.length = N.toNat) (h0 : 0 ≤ fr) (hN : fr < N) (hto0 : 0 ≤ to) (hfr : inB seen fr = false) (hto : inB seen to = false) (hne : fr ≠ to) :
    Trying N l x k d seen fr to k (seen.set fr.toNat true) := by
  have hset : ∀ u, 0 ≤ u → inB (seen.set fr.toNat true) u = (decide (u = fr) || inB seen u) := fun u hu => inB_set h0 (by omega) hu
  have hc := unseen_set (l := seen) (i := fr.toNat) (by omega) hfr
  refine ⟨by simp, fun u hu h => by rw [hset u hu, h]; simp, by rw [hset fr h0]; simp, by rw [hset to hto0, hto]; simp [Ne.symm hne], fun j h1 h2 => by omega, fun u hu _ h1 h2 h3 => ?_, by omega⟩
  rw [hset u hu, h2] at h1
  simp [h3] at h1

theorem Trying.done {N : Int} {l : List Arc} {x : Nat → Int} {k : Nat} {d : Int} {seen seen1 : List Bool} {fr to : Int} (h : Trying N l x k d seen fr to l.length seen1) : Searched N l x k d seen fr to seen1 :=
  ⟨h.len, h.more, h.inFr, h.outTo, fun u h0 h1 h2 h3 => by
    by_cases e : u = fr
    · subst e; exact h.here
    · exact h.shut u h0 h1 h2 h3 e, h.less⟩

/-- An arc that leads nowhere new. -/
theorem Trying.pass {N : Int} {l : List Arc} {x : Nat → Int} {k : Nat} {d : Int} {seen seen1 : List Bool} {fr to : Int} {i : Nat} (h : Trying N l x k d seen fr to i seen1)
    (hA : ¬ ((arcAt l i).fr = fr ∧ inB seen1 (arcAt l i).to = false ∧ d ≤ (arcAt l i).cap - x i)) (hB : ¬ ((arcAt l i).to = fr ∧ inB seen1 (arcAt l i).fr = false ∧ d ≤ x i)) : Trying N l x k d seen fr to (i + 1) seen1 := by
  refine ⟨h.len, h.more, h.inFr, h.outTo, fun j h1 h2 h3 => ?_, h.shut, h.less⟩
  by_cases e : j = i
  · subst e
    exact ⟨fun e1 e2 => Int.not_le.1 fun e3 => hA ⟨e1, e2, e3⟩, fun e1 e2 => Int.not_le.1 fun e3 => hB ⟨e1, e2, e3⟩⟩
  · exact h.here j h1 (by omega) h3

/-- An arc behind which nothing was found. -/
theorem Trying.fail {N : Int} {l : List Arc} {x : Nat → Int} {k : Nat} {d : Int} {seen seen1 seen2 : List Bool} {fr to w : Int} {i : Nat} (hok : NetOk N l) (hfr : 0 ≤ fr) (h : Trying N l x k d seen fr to i seen1) (hi : i < l.length) (hs : Searched N l x k d seen1 w to seen2)
    (hw : ((arcAt l i).fr = fr ∧ (arcAt l i).to = w) ∨ ((arcAt l i).to = fr ∧ (arcAt l i).fr = w)) : Trying N l x k d seen fr to (i + 1) seen2 := by
  have hg : ∀ j, j < l.length → (inB seen1 (arcAt l j).to = true → inB seen2 (arcAt l j).to = true) ∧ (inB seen1 (arcAt l j).fr = true → inB seen2 (arcAt l j).fr = true) := fun j hj => by
    obtain ⟨b1, _, b3, _⟩ := hok.arc j hj
    exact ⟨hs.more _ b3, hs.more _ b1⟩
  obtain ⟨a1, a2, a3, a4, a5, _⟩ := hok.arc i hi
  refine ⟨hs.len.trans h.len, fun u hu hx => hs.more u hu (h.more u hu hx), hs.more _ hfr h.inFr, hs.outTo, fun j h1 h2 h3 => ?_, fun u h0 h1 h2 h3 h4 => ?_, Nat.lt_trans hs.less h.less⟩
  · by_cases e : j = i
    · subst e
      rcases hw with ⟨e1, e2⟩ | ⟨e1, e2⟩
      · refine ⟨fun _ e3 => ?_, fun e3 _ => absurd (e1.trans e3.symm) a5⟩
        rw [e2, hs.inFr] at e3; cases e3
      · refine ⟨fun e3 _ => absurd (e3.trans e1.symm) a5, fun _ e3 => ?_⟩
        rw [e2, hs.inFr] at e3; cases e3
    · exact (h.here.grow hg) j h1 (by omega) h3
  · cases e : inB seen1 u with
    | false => exact hs.shut u h0 h1 h2 e
    | true => exact (h.shut u h0 h1 e h3 h4).grow hg

/-- An arc behind which a way was found. -/
theorem Trying.found {N : Int} {l : List Arc} {k : Nat} {d : Int} {seen seen1 : List Bool} {xs xs' : List Int} {fr to w : Int} {i : Nat} {most y z : Int} (hok : NetOk N l) (hl : xs.length = l.length) (hfr0 : 0 ≤ fr) (hfr : inB seen fr = false) (h : Trying N l (am xs) k d seen fr to i seen1) (hi : i < l.length) (hk : k ≤ i) (hr : inRange l (am xs))
    (hm : Moved l k xs (inB seen1) w to y xs') (hw1 : inB seen1 w = false) (hy : 1 ≤ y)
    (hw : ((arcAt l i).fr = fr ∧ (arcAt l i).to = w ∧ z = y ∧ y ≤ min most ((arcAt l i).cap - am xs i)) ∨ ((arcAt l i).to = fr ∧ (arcAt l i).fr = w ∧ z = -y ∧ y ≤ min most (am xs i))) :
    am xs' i = am xs i ∧ y ≤ most ∧ Moved l k xs (inB seen) fr to y (xs'.set i (xs'.getD i 0 + z)) := by
  obtain ⟨a1, a2, a3, a4, a5, _⟩ := hok.arc i hi
  have hx' : am xs' i = am xs i := hm.off i hi (by
    rcases hw with ⟨e1, _⟩ | ⟨e1, _⟩
    · exact .inl (by rw [e1]; exact h.inFr)
    · exact .inr (by rw [e1]; exact h.inFr))
  have hxl := hm.len
  obtain ⟨r1, r2⟩ := hr i hi
  have hwseen : inB seen w = false := by
    cases e : inB seen w with
    | false => rfl
    | true =>
      have := h.more w (by rcases hw with ⟨_, e, _⟩ | ⟨_, e, _⟩ <;> omega) e
      rw [hw1] at this; cases this
  have hset : ∀ j, am (xs'.set i (xs'.getD i 0 + z)) j = if i = j then am xs' i + z else am xs' j := fun j => by
    simp only [am]; rw [getD_set (by omega)]
  refine ⟨hx', by rcases hw with ⟨_, _, _, e⟩ | ⟨_, _, _, e⟩ <;> omega, ⟨by simp [hxl], fun j hj => ?_, fun j hj => ?_, fun j hj hs => ?_, fun v => ?_⟩⟩
  · rw [hset]
    by_cases e : i = j
    · subst e
      rw [if_pos rfl, hx']
      rcases hw with ⟨_, _, rfl, e⟩ | ⟨_, _, rfl, e⟩ <;> omega
    · rw [if_neg e]; exact hm.range j hj
  · rw [hset, if_neg (by omega)]; exact hm.skip j hj
  · rw [hset]
    by_cases e : i = j
    · subst e
      exfalso
      rcases hw with ⟨e1, e2, _⟩ | ⟨e1, e2, _⟩
      · rw [e1, e2, hfr, hwseen] at hs; simp at hs
      · rw [e1, e2, hfr, hwseen] at hs; simp at hs
    · rw [if_neg e]
      obtain ⟨b1, _, b3, _⟩ := hok.arc j hj
      exact hm.off j hj (hs.imp (h.more _ b1) (h.more _ b3))
  · rw [bal_set (by omega) hi, hm.bal v]
    rcases hw with ⟨e1, e2, rfl, _⟩ | ⟨e1, e2, rfl, _⟩
    · rw [e1, e2]; omega
    · rw [e1, e2]
      split <;> split <;> split <;> omega

end Go.Proofs.Ytgkmpidihgbkdaa
