/- Networks that go together, without any program. -/
import Derived.Test.YtgkmpidihgbkdaaJX
namespace Go.Proofs.Ytgkmpidihgbkdaa

/-! ### Two lists of arcs in one -/

structure Maps (f : Arc → Arc) (φ : Int → Int) : Prop where
  fr : ∀ a, (f a).fr = φ a.fr
  to : ∀ a, (f a).to = φ a.to
  cap : ∀ a, (f a).cap = a.cap

section
variable {f g : Arc → Arc} {φ ψ : Int → Int} {nl ml : List Arc}

theorem glue_len : (nl.map f ++ ml.map g).length = nl.length + ml.length := by simp
theorem glue_left {i : Nat} (hi : i < nl.length) : arcAt (nl.map f ++ ml.map g) i = f (arcAt nl i) := by
  simp [arcAt, List.getD, List.getElem?_append_left, hi]
theorem glue_right {j : Nat} (hj : j < ml.length) : arcAt (nl.map f ++ ml.map g) (nl.length + j) = g (arcAt ml j) := by
  simp [arcAt, List.getD, List.getElem?_append_right, hj]

abbrev later (k : Nat) (x : Nat → Int) : Nat → Int := fun j => x (k + j)

theorem glue_pot (hf : Maps f φ) (hg : Maps g ψ) {x : Nat → Int} {S : Int → Bool} : pot (nl.map f ++ ml.map g) x S = pot nl x (fun u => S (φ u)) + pot ml (later nl.length x) (fun u => S (ψ u)) := by
  unfold pot
  rw [glue_len, Sm.app]
  congr 1
  · exact Sm.congr fun i hi => by unfold into; rw [glue_left hi, hf.fr, hf.to]
  · exact Sm.congr fun i hi => by unfold into later; rw [glue_right hi, hg.fr, hg.to]

theorem glue_cut (hf : Maps f φ) (hg : Maps g ψ) {S : Int → Bool} : cutOf (nl.map f ++ ml.map g) S = cutOf nl (fun u => S (φ u)) + cutOf ml (fun u => S (ψ u)) := by
  unfold cutOf
  rw [glue_len, Sm.app]
  congr 1
  · exact Sm.congr fun i hi => by rw [glue_left hi, hf.fr, hf.to, hf.cap]
  · exact Sm.congr fun i hi => by rw [glue_right hi, hg.fr, hg.to, hg.cap]

theorem glue_range (hf : Maps f φ) (hg : Maps g ψ) {x : Nat → Int} : inRange (nl.map f ++ ml.map g) x ↔ inRange nl x ∧ inRange ml (later nl.length x) := by
  constructor
  · intro h
    refine ⟨fun i hi => ?_, fun j hj => ?_⟩
    · have := h i (by rw [glue_len]; omega)
      rwa [glue_left hi, hf.cap] at this
    · have := h (nl.length + j) (by rw [glue_len]; omega)
      rwa [glue_right hj, hg.cap] at this
  · rintro ⟨h1, h2⟩ i hi
    rw [glue_len] at hi
    by_cases e : i < nl.length
    · rw [glue_left e, hf.cap]; exact h1 i e
    · obtain ⟨j, rfl⟩ : ∃ j, i = nl.length + j := ⟨i - nl.length, by omega⟩
      rw [glue_right (by omega), hg.cap]; exact h2 j (by omega)

theorem glue_closed (hf : Maps f φ) (hg : Maps g ψ) {x : Nat → Int} {S : Int → Bool} : Closed (nl.map f ++ ml.map g) x 0 1 S ↔ Closed nl x 0 1 (fun u => S (φ u)) ∧ Closed ml (later nl.length x) 0 1 (fun u => S (ψ u)) := by
  constructor
  · intro h
    refine ⟨fun i _ hi => ?_, fun j _ hj => ?_⟩
    · have := h i (Nat.zero_le _) (by rw [glue_len]; omega)
      rwa [glue_left hi, hf.cap, hf.fr, hf.to] at this
    · have := h (nl.length + j) (Nat.zero_le _) (by rw [glue_len]; omega)
      rwa [glue_right hj, hg.cap, hg.fr, hg.to] at this
  · rintro ⟨h1, h2⟩ i _ hi
    rw [glue_len] at hi
    by_cases e : i < nl.length
    · rw [glue_left e, hf.cap, hf.fr, hf.to]; exact h1 i (Nat.zero_le _) e
    · obtain ⟨j, rfl⟩ : ∃ j, i = nl.length + j := ⟨i - nl.length, by omega⟩
      rw [glue_right (by omega), hg.cap, hg.fr, hg.to]; exact h2 j (Nat.zero_le _) (by omega)
end

/-! ### Sets that are the same on the nodes -/

theorem pot_congr {N : Int} {l : List Arc} {x y : Nat → Int} {S T : Int → Bool} (h : NetOk N l) (hx : ∀ i, i < l.length → x i = y i) (hs : ∀ u, 0 ≤ u → u < N → S u = T u) : pot l x S = pot l y T := Sm.congr fun i hi => by
  obtain ⟨a1, a2, a3, a4, _⟩ := h.arc i hi
  unfold into
  rw [hs _ a1 a2, hs _ a3 a4, hx i hi]
theorem cut_congr {N : Int} {l : List Arc} {S T : Int → Bool} (h : NetOk N l) (hs : ∀ u, 0 ≤ u → u < N → S u = T u) : cutOf l S = cutOf l T := Sm.congr fun i hi => by
  obtain ⟨a1, a2, a3, a4, _⟩ := h.arc i hi
  rw [hs _ a1 a2, hs _ a3 a4]
theorem closed_congr {N : Int} {l : List Arc} {x : Nat → Int} {S T : Int → Bool} (h : NetOk N l) (hs : ∀ u, 0 ≤ u → u < N → S u = T u) (hc : Closed l x 0 1 S) : Closed l x 0 1 T := fun i h1 hi => by
  obtain ⟨a1, a2, a3, a4, _⟩ := h.arc i hi
  have := hc i h1 hi
  rwa [hs _ a1 a2, hs _ a3 a4] at this
theorem pot_none {l : List Arc} {x : Nat → Int} : pot l x (fun _ => false) = 0 := Sm.nil fun i _ => by simp [into]
theorem cut_none {l : List Arc} : cutOf l (fun _ => false) = 0 := Sm.nil fun i _ => by simp
theorem cut_all {l : List Arc} : cutOf l (fun _ => true) = 0 := Sm.nil fun i _ => by simp
theorem cut_nonneg {N : Int} {l : List Arc} {S : Int → Bool} (h : NetOk N l) : 0 ≤ cutOf l S := by
  have : Sm l.length (fun _ => 0) ≤ cutOf l S := Sm.le fun i hi => by
    obtain ⟨_, _, _, _, _, h2, _⟩ := h.arc i hi
    split <;> omega
  rwa [Sm.zero] at this

/-! ### Side by side -/

section
variable {nN mN : Int} {nl ml : List Arc}

abbrev phi (nN mN : Int) : Int → Int := nodeOf (nN + mN - 2) nN 0
abbrev psi (nN mN : Int) : Int → Int := nodeOf (nN + mN - 2) mN (nN - 2)
abbrev sideL (nN mN : Int) (nl ml : List Arc) : List Arc := nl.map (arcOf (nN + mN - 2) nN 0) ++ ml.map (arcOf (nN + mN - 2) mN (nN - 2))

theorem mapsOf {a b c : Int} : Maps (arcOf a b c) (nodeOf a b c) := ⟨fun _ => rfl, fun _ => rfl, fun _ => rfl⟩

/-- A set of the whole's nodes, of sets of the parts' nodes. -/
def both (nN mN : Int) (S T : Int → Bool) (v : Int) : Bool := if v = nN + mN - 3 then false else if v ≤ nN - 2 then S v else T (v - (nN - 2))

theorem both_phi {S T : Int → Bool} (hn : 2 ≤ nN) (hm : 2 ≤ mN) (hS : Side nN S) : ∀ u, 0 ≤ u → u < nN → both nN mN S T (phi nN mN u) = S u := fun u h0 h1 => by
  unfold both phi nodeOf
  by_cases e1 : u = nN - 1
  · subst e1; rw [if_pos rfl, if_pos (by omega), hS.2]
  · rw [if_neg e1]
    by_cases e2 : u = 0
    · subst e2; rw [if_pos rfl, if_neg (by omega), if_pos (by omega)]
    · rw [if_neg e2, if_neg (by omega), if_pos (by omega), Int.add_zero]
theorem both_psi {S T : Int → Bool} (hn : 2 ≤ nN) (hm : 2 ≤ mN) (hS : Side nN S) (hT : Side mN T) : ∀ u, 0 ≤ u → u < mN → both nN mN S T (psi nN mN u) = T u := fun u h0 h1 => by
  unfold both psi nodeOf
  by_cases e1 : u = mN - 1
  · subst e1; rw [if_pos rfl, if_pos (by omega), hT.2]
  · rw [if_neg e1]
    by_cases e2 : u = 0
    · subst e2; rw [if_pos rfl, if_neg (by omega), if_pos (by omega), hS.1, hT.1]
    · rw [if_neg e2, if_neg (by omega), if_neg (by omega), show u + (nN - 2) - (nN - 2) = u by omega]
theorem both_side {S T : Int → Bool} (hn : 2 ≤ nN) (hm : 2 ≤ mN) (hS : Side nN S) : Side (nN + mN - 2) (both nN mN S T) := by
  refine ⟨?_, ?_⟩ <;> unfold both
  · rw [if_neg (by omega), if_pos (by omega), hS.1]
  · rw [if_pos (by omega)]

theorem only_phi {v : Int} (hn : 2 ≤ nN) (hm : 2 ≤ mN) (h0 : 0 ≤ v) (hv : v < nN - 1) : ∀ u, 0 ≤ u → u < nN → only v (phi nN mN u) = only v u := fun u h1 h2 => by
  unfold only phi nodeOf
  by_cases e1 : u = nN - 1
  · subst e1; rw [if_pos rfl]; simp; omega
  · rw [if_neg e1]
    by_cases e2 : u = 0
    · subst e2; rw [if_pos rfl]
    · rw [if_neg e2, Int.add_zero]
theorem only_phi' {v : Int} (hv0 : nN - 1 ≤ v) (hv : v < nN + mN - 3) (hn : 2 ≤ nN) : ∀ u, 0 ≤ u → u < nN → only v (phi nN mN u) = false := fun u h1 h2 => by
  unfold only phi nodeOf
  by_cases e1 : u = nN - 1
  · subst e1; rw [if_pos rfl]; simp; omega
  · rw [if_neg e1]
    by_cases e2 : u = 0
    · subst e2; rw [if_pos rfl]; simp; omega
    · rw [if_neg e2]; simp; omega
theorem only_psi {v : Int} (hm : 2 ≤ mN) (hn : 2 ≤ nN) (h0 : 0 < v) (hv : v < nN - 1) : ∀ u, 0 ≤ u → u < mN → only v (psi nN mN u) = false := fun u h1 h2 => by
  unfold only psi nodeOf
  by_cases e1 : u = mN - 1
  · subst e1; rw [if_pos rfl]; simp; omega
  · rw [if_neg e1]
    by_cases e2 : u = 0
    · subst e2; rw [if_pos rfl]; simp; omega
    · rw [if_neg e2]; simp; omega
theorem only_psi0 (hm : 2 ≤ mN) (hn : 2 ≤ nN) : ∀ u, 0 ≤ u → u < mN → only 0 (psi nN mN u) = only 0 u := fun u h1 h2 => by
  unfold only psi nodeOf
  by_cases e1 : u = mN - 1
  · subst e1; rw [if_pos rfl]; simp; omega
  · rw [if_neg e1]
    by_cases e2 : u = 0
    · subst e2; rw [if_pos rfl]
    · rw [if_neg e2]; simp; omega
theorem only_psi' {v : Int} (hm : 2 ≤ mN) (hn : 2 ≤ nN) (hv0 : nN - 1 ≤ v) (hv : v < nN + mN - 3) : ∀ u, 0 ≤ u → u < mN → only v (psi nN mN u) = only (v - (nN - 2)) u := fun u h1 h2 => by
  unfold only psi nodeOf
  by_cases e1 : u = mN - 1
  · subst e1; rw [if_pos rfl]; simp; omega
  · rw [if_neg e1]
    by_cases e2 : u = 0
    · subst e2; rw [if_pos rfl]; simp; omega
    · rw [if_neg e2]; simp; omega

theorem side_bal0 (hn : NetOk nN nl) (hm : NetOk mN ml) {x : Nat → Int} : bal (sideL nN mN nl ml) x 0 = bal nl x 0 + bal ml (later nl.length x) 0 := by
  have h1 := hn.two
  have h2 := hm.two
  unfold bal
  rw [glue_pot mapsOf mapsOf, pot_congr hn (fun _ _ => rfl) (only_phi h1 h2 (Int.le_refl _) (by omega)), pot_congr hm (fun _ _ => rfl) (only_psi0 h2 h1)]
theorem side_bal1 (hn : NetOk nN nl) (hm : NetOk mN ml) {x : Nat → Int} {v : Int} (h0 : 0 < v) (hv : v < nN - 1) : bal (sideL nN mN nl ml) x v = bal nl x v := by
  have h1 := hn.two
  have h2 := hm.two
  unfold bal
  rw [glue_pot mapsOf mapsOf, pot_congr hn (fun _ _ => rfl) (only_phi h1 h2 (by omega) hv), pot_congr hm (fun _ _ => rfl) (only_psi h2 h1 h0 hv), pot_none, Int.add_zero]
theorem side_bal2 (hn : NetOk nN nl) (hm : NetOk mN ml) {x : Nat → Int} {v : Int} (h0 : nN - 1 ≤ v) (hv : v < nN + mN - 3) : bal (sideL nN mN nl ml) x v = bal ml (later nl.length x) (v - (nN - 2)) := by
  have h1 := hn.two
  have h2 := hm.two
  unfold bal
  rw [glue_pot mapsOf mapsOf, pot_congr hn (fun _ _ => rfl) (only_phi' h0 hv h1), pot_congr hm (fun _ _ => rfl) (only_psi' h2 h1 h0 hv), pot_none, Int.zero_add]

theorem side_flow (hn : NetOk nN nl) (hm : NetOk mN ml) {x : Nat → Int} : IsFlow (nN + mN - 2) (sideL nN mN nl ml) x ↔ IsFlow nN nl x ∧ IsFlow mN ml (later nl.length x) := by
  constructor
  · intro h
    have hr := (glue_range mapsOf mapsOf).1 h.range
    refine ⟨⟨hr.1, fun v h0 hv => ?_⟩, ⟨hr.2, fun v h0 hv => ?_⟩⟩
    · rw [← side_bal1 hn hm h0 hv]; exact h.kept v h0 (by have := hm.two; omega)
    · have := side_bal2 hn hm (x := x) (v := v + (nN - 2)) (by omega) (by omega)
      rw [show v + (nN - 2) - (nN - 2) = v by omega] at this
      rw [← this]; exact h.kept _ (by have := hn.two; omega) (by omega)
  · rintro ⟨h1, h2⟩
    refine ⟨(glue_range mapsOf mapsOf).2 ⟨h1.range, h2.range⟩, fun v h0 hv => ?_⟩
    by_cases e : v < nN - 1
    · rw [side_bal1 hn hm h0 e]; exact h1.kept v h0 e
    · rw [side_bal2 hn hm (by omega) (by omega)]; exact h2.kept _ (by omega) (by omega)

theorem side_val' (hn : NetOk nN nl) (hm : NetOk mN ml) {x : Nat → Int} : val (sideL nN mN nl ml) x = val nl x + val ml (later nl.length x) := by
  unfold val; rw [side_bal0 hn hm]; omega

/-- The flow of both. -/
def bothF (k : Nat) (x y : Nat → Int) (i : Nat) : Int := if i < k then x i else y (i - k)
theorem bothF_left {k : Nat} {x y : Nat → Int} {i : Nat} (h : i < k) : bothF k x y i = x i := if_pos h
theorem bothF_right {k : Nat} {x y : Nat → Int} : later k (bothF k x y) = y := by
  funext j
  show (if k + j < k then _ else y (k + j - k)) = y j
  rw [if_neg (by omega)]; congr 1; omega

theorem flow_congr {N : Int} {l : List Arc} {x y : Nat → Int} (h : NetOk N l) (e : ∀ i, i < l.length → x i = y i) (hf : IsFlow N l x) : IsFlow N l y :=
  ⟨fun i hi => by rw [← e i hi]; exact hf.range i hi, fun v h0 hv => by
    have : bal l x v = bal l y v := pot_congr h e fun _ _ _ => rfl
    rw [← this]; exact hf.kept v h0 hv⟩
theorem val_congr {N : Int} {l : List Arc} {x y : Nat → Int} (h : NetOk N l) (e : ∀ i, i < l.length → x i = y i) : val l x = val l y := by
  have : bal l x 0 = bal l y 0 := pot_congr h e fun _ _ _ => rfl
  unfold val; rw [this]

theorem gr_max {N : Int} {l : List Arc} {x g : Nat → Int} {k : Nat} (h : NetOk N l) (hx : GrTo N l x k) (hg : IsFlow N l g) : val l g ≤ val l x := by
  obtain ⟨S, hS, e⟩ := hx.cut
  have := val_le_cut h hg hS
  omega

theorem side_gr (hn : NetOk nN nl) (hm : NetOk mN ml) {x y : Nat → Int} (hx : Gr nN nl x) (hy : Gr mN ml y) : Gr (nN + mN - 2) (sideL nN mN nl ml) (bothF nl.length x y) := by
  have h1 := hn.two
  have h2 := hm.two
  have eL : ∀ i, i < nl.length → x i = bothF nl.length x y i := fun i hi => (bothF_left hi).symm
  have hvn : val nl (bothF nl.length x y) = val nl x := (val_congr hn eL).symm
  refine ⟨(side_flow hn hm).2 ⟨flow_congr hn eL hx.flow, by rw [bothF_right]; exact hy.flow⟩, ?_, ?_⟩
  · obtain ⟨S, hS, e1⟩ := hx.cut
    obtain ⟨T, hT, e2⟩ := hy.cut
    refine ⟨both nN mN S T, both_side h1 h2 hS, ?_⟩
    rw [side_val' hn hm, glue_cut mapsOf mapsOf, cut_congr hn (both_phi h1 h2 hS), cut_congr hm (both_psi h1 h2 hS hT), bothF_right, hvn, e1, e2]
  · intro g hg hgv j hj hjl hpre
    obtain ⟨g1, g2⟩ := (side_flow hn hm).1 hg
    rw [side_val' hn hm, side_val' hn hm, bothF_right, hvn] at hgv
    have m1 := gr_max hn hx g1
    have m2 := gr_max hm hy g2
    rw [glue_len] at hjl
    by_cases e : j < nl.length
    · rw [bothF_left e]
      refine hx.least g g1 (by omega) j e e fun m hmj => ?_
      rw [hpre m hmj, bothF_left (by omega)]
    · obtain ⟨j', rfl⟩ : ∃ j', j = nl.length + j' := ⟨j - nl.length, by omega⟩
      have e3 : bothF nl.length x y (nl.length + j') = y j' := congrFun (bothF_right (k := nl.length) (x := x) (y := y)) j'
      rw [e3]
      refine hy.least (later nl.length g) g2 (by omega) j' (by omega) (by omega) fun m hmj => ?_
      show g (nl.length + m) = y m
      rw [hpre (nl.length + m) (by omega)]
      exact congrFun (bothF_right (k := nl.length) (x := x) (y := y)) m

theorem phi_range (hn : 2 ≤ nN) (hm : 2 ≤ mN) {u : Int} (h0 : 0 ≤ u) (h1 : u < nN) : 0 ≤ phi nN mN u ∧ phi nN mN u < nN + mN - 2 := by
  unfold phi nodeOf
  split
  · omega
  · split <;> omega
theorem psi_range (hn : 2 ≤ nN) (hm : 2 ≤ mN) {u : Int} (h0 : 0 ≤ u) (h1 : u < mN) : 0 ≤ psi nN mN u ∧ psi nN mN u < nN + mN - 2 := by
  unfold psi nodeOf
  split
  · omega
  · split <;> omega

/-- What networks side by side come to. -/
theorem side_law (hn : NetOk nN nl) (hm : NetOk mN ml) (hz : NetOk (nN + mN - 2) (sideL nN mN nl ml)) {x y z : Nat → Int} (hx : Gr nN nl x) (hy : Gr mN ml y) (hzg : Gr (nN + mN - 2) (sideL nN mN nl ml) z) :
    val (sideL nN mN nl ml) z = val nl x + val ml y ∧ (∀ i, i < nl.length → z i = x i) ∧ (∀ j, j < ml.length → z (nl.length + j) = y j) := by
  have hu := gr_unique hz hzg (side_gr hn hm hx hy)
  refine ⟨?_, fun i hi => ?_, fun j hj => ?_⟩
  · rw [val_congr hz hu, side_val' hn hm, bothF_right, ← val_congr hn (fun i hi => (bothF_left (y := y) hi).symm)]
  · rw [hu i (by rw [glue_len]; omega), bothF_left hi]
  · rw [hu _ (by rw [glue_len]; omega)]
    exact congrFun (bothF_right (k := nl.length) (x := x) (y := y)) j

theorem side_least (hn : NetOk nN nl) (hm : NetOk mN ml) (hz : NetOk (nN + mN - 2) (sideL nN mN nl ml)) {x y z : Nat → Int} (hx : Gr nN nl x) (hy : Gr mN ml y) (hzg : Gr (nN + mN - 2) (sideL nN mN nl ml) z) {xo yo zo : List Bool} (hxo : IsLeast nN nl x xo) (hyo : IsLeast mN ml y yo)
    (hzo : IsLeast (nN + mN - 2) (sideL nN mN nl ml) z zo) : (∀ u, 0 ≤ u → u < nN → inB zo (phi nN mN u) = inB xo u) ∧ (∀ u, 0 ≤ u → u < mN → inB zo (psi nN mN u) = inB yo u) := by
  have h1 := hn.two
  have h2 := hm.two
  obtain ⟨_, ex, ey⟩ := side_law hn hm hz hx hy hzg
  have hxs := (gr_least hn hx hxo).1
  have hys := (gr_least hm hy hyo).1
  have hT : Closed (sideL nN mN nl ml) z 0 1 (both nN mN (inB xo) (inB yo)) := by
    refine (glue_closed mapsOf mapsOf).2 ⟨?_, ?_⟩
    · exact closed_congr hn (fun u h0 h1' => (both_phi h1 h2 hxs u h0 h1').symm) (hxo.closed.congr fun i hi => (ex i hi).symm)
    · exact closed_congr hm (fun u h0 h1' => (both_psi h1 h2 hxs hys u h0 h1').symm) (hyo.closed.congr fun i hi => (ey i hi).symm)
  have hle := hzo.least _ (both_side h1 h2 hxs).1 hT
  obtain ⟨c1, c2⟩ := (glue_closed mapsOf mapsOf).1 hzo.closed
  have p0 : phi nN mN 0 = 0 := by unfold phi nodeOf; rw [if_neg (by omega), if_pos rfl]
  have q0 : psi nN mN 0 = 0 := by unfold psi nodeOf; rw [if_neg (by omega), if_pos rfl]
  have g1 := hxo.least (fun u => inB zo (phi nN mN u)) (by show inB zo (phi nN mN 0) = true; rw [p0]; exact hzo.zero) (c1.congr ex)
  have g2 := hyo.least (fun u => inB zo (psi nN mN u)) (by show inB zo (psi nN mN 0) = true; rw [q0]; exact hzo.zero) (c2.congr ey)
  refine ⟨fun u h0 hu => ?_, fun u h0 hu => ?_⟩
  · obtain ⟨r1, r2⟩ := phi_range h1 h2 h0 hu
    cases e : inB xo u with
    | true => exact g1 u h0 hu e
    | false =>
      cases e2 : inB zo (phi nN mN u) with
      | false => rfl
      | true => have := hle _ r1 r2 e2; rw [both_phi h1 h2 hxs u h0 hu, e] at this; cases this
  · obtain ⟨r1, r2⟩ := psi_range h1 h2 h0 hu
    cases e : inB yo u with
    | true => exact g2 u h0 hu e
    | false =>
      cases e2 : inB zo (psi nN mN u) with
      | false => rfl
      | true => have := hle _ r1 r2 e2; rw [both_psi h1 h2 hxs hys u h0 hu, e] at this; cases this

/-! ### One behind the other -/

abbrev behL (nN : Int) (nl ml : List Arc) : List Arc := nl ++ ml.map (shiftArc nN)

theorem mapsShift : Maps (shiftArc nN) (fun u => u + nN - 1) := ⟨fun _ => rfl, fun _ => rfl, fun _ => rfl⟩
theorem mapsId : Maps id (fun u => u) := ⟨fun _ => rfl, fun _ => rfl, fun _ => rfl⟩
theorem beh_cut {S : Int → Bool} : cutOf (behL nN nl ml) S = cutOf nl S + cutOf ml (fun u => S (u + nN - 1)) := by
  have := glue_cut (nl := nl) (ml := ml) mapsId (mapsShift (nN := nN)) (S := S)
  rwa [List.map_id] at this

theorem beh_law (hn : NetOk nN nl) (hm : NetOk mN ml) (hb : NetOk (nN + mN - 1) (behL nN nl ml)) {x y u : Nat → Int} (hx : Gr nN nl x) (hy : Gr mN ml y) (hu : Gr (nN + mN - 1) (behL nN nl ml) u) : val (behL nN nl ml) u = min (val nl x) (val ml y) := by
  have h1 := hn.two
  have h2 := hm.two
  have b1 : val (behL nN nl ml) u ≤ val nl x := by
    obtain ⟨S, hS, e⟩ := hx.cut
    have hside : Side (nN + mN - 1) (fun v => if v < nN then S v else false) := ⟨by dsimp only; rw [if_pos (by omega)]; exact hS.1, by dsimp only; rw [if_neg (by omega)]⟩
    have := val_le_cut hb hu.flow hside
    rw [beh_cut, cut_congr hn (T := S) (fun v _ hv => if_pos hv), cut_congr hm (T := fun _ => false) (fun v h0 _ => by
      split
      · have : v = 0 := by omega
        subst this
        rw [show 0 + nN - 1 = nN - 1 by omega]; exact hS.2
      · rfl), cut_none] at this
    omega
  have b2 : val (behL nN nl ml) u ≤ val ml y := by
    obtain ⟨S, hS, e⟩ := hy.cut
    have hside : Side (nN + mN - 1) (fun v => if v < nN then true else S (v - (nN - 1))) := ⟨by dsimp only; rw [if_pos (by omega)], by dsimp only; rw [if_neg (by omega), show nN + mN - 1 - 1 - (nN - 1) = mN - 1 by omega]; exact hS.2⟩
    have := val_le_cut hb hu.flow hside
    rw [beh_cut, cut_congr hn (T := fun _ => true) (fun v _ hv => if_pos hv), cut_congr hm (T := S) (fun v h0 _ => by
      split
      · have : v = 0 := by omega
        subst this
        exact hS.1.symm
      · rw [show v + nN - 1 - (nN - 1) = v by omega]), cut_all] at this
    omega
  obtain ⟨S, hS, e⟩ := hu.cut
  rw [beh_cut] at e
  have c1 := cut_nonneg (S := S) hn
  have c2 := cut_nonneg (S := fun v => S (v + nN - 1)) hm
  cases hmid : S (nN - 1) with
  | true =>
    have := val_le_cut hm hy.flow (S := fun v => S (v + nN - 1)) ⟨by dsimp only; rw [show 0 + nN - 1 = nN - 1 by omega]; exact hmid, by dsimp only; rw [show mN - 1 + nN - 1 = nN + mN - 1 - 1 by omega]; exact hS.2⟩
    omega
  | false =>
    have := val_le_cut hn hx.flow (S := S) ⟨hS.1, hmid⟩
    omega

theorem beh_swap (hn : NetOk nN nl) (hm : NetOk mN ml) (hb : NetOk (nN + mN - 1) (behL nN nl ml)) : NetOk (mN + nN - 1) (behL mN ml nl) := by
  have h1 := hn.two
  have h2 := hm.two
  refine ⟨by omega, by have := hb.most; omega, by have := hb.len; simp at this ⊢; omega, fun i hi => ?_⟩
  have hl : (behL mN ml nl).length = ml.length + nl.length := by simp
  by_cases e : i < ml.length
  · have e1 : arcAt (behL mN ml nl) i = arcAt ml i := by simp [arcAt, List.getD, List.getElem?_append_left, e]
    obtain ⟨a1, a2, a3, a4, a5⟩ := hm.arc i e
    rw [e1]; exact ⟨a1, by omega, a3, by omega, a5⟩
  · obtain ⟨j, rfl⟩ : ∃ j, i = ml.length + j := ⟨i - ml.length, by omega⟩
    have hj : j < nl.length := by omega
    have e1 : arcAt (behL mN ml nl) (ml.length + j) = shiftArc mN (arcAt nl j) := by simp [arcAt, List.getD, List.getElem?_append_right, hj]
    obtain ⟨a1, a2, a3, a4, a5, a6, a7⟩ := hn.arc j hj
    rw [e1]; exact ⟨by simp [shiftArc]; omega, by simp [shiftArc]; omega, by simp [shiftArc]; omega, by simp [shiftArc]; omega, by simp [shiftArc]; omega, a6, a7⟩

/-- The arcs by the list of nodes. -/
theorem side_list (hm : NetOk mN ml) : ml.map (arcAtL (nodeL (nN + mN - 2) mN (nN - 2) mN.toNat)) = ml.map (arcOf (nN + mN - 2) mN (nN - 2)) := by
  refine List.map_congr_left fun a ha => ?_
  obtain ⟨i, hi, rfl⟩ := List.getElem_of_mem ha
  have := hm.arc i hi
  have e : arcAt ml i = ml[i] := by simp [arcAt, List.getD, hi]
  rw [e] at this
  obtain ⟨a1, a2, a3, a4, _⟩ := this
  have key : ∀ u : Int, 0 ≤ u → u < mN → (nodeL (nN + mN - 2) mN (nN - 2) mN.toNat).getD u.toNat 0 = nodeOf (nN + mN - 2) mN (nN - 2) u := fun u h0 h1 => by
    have h2 : u.toNat < mN.toNat := by omega
    simp only [nodeL, List.getD, List.getElem?_map, List.getElem?_range h2, Option.map_some, Option.getD_some]
    rw [show ((u.toNat : Nat) : Int) = u by omega]
  unfold arcAtL arcOf
  rw [key _ a1 a2, key _ a3 a4]
end

end Go.Proofs.Ytgkmpidihgbkdaa
