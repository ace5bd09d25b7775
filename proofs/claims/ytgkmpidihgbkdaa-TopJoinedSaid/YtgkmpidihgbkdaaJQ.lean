/- The greatest flow that sends as much as can be by later arcs, without any program. -/
import Derived.Test.YtgkmpidihgbkdaaJJ
namespace Go.Proofs.Ytgkmpidihgbkdaa

/-- A greatest flow; of these, ahead of an index, the least in the arcs' order. -/
structure GrTo (N : Int) (l : List Arc) (x : Nat → Int) (i : Nat) : Prop where
  flow : IsFlow N l x
  cut : ∃ S, Side N S ∧ val l x = cutOf l S
  least : ∀ g, IsFlow N l g → val l g = val l x → ∀ j, j < i → j < l.length → (∀ m, m < j → g m = x m) → x j ≤ g j

abbrev Gr (N : Int) (l : List Arc) (x : Nat → Int) : Prop := GrTo N l x l.length

theorem zeros_am {n : Nat} : am (List.replicate n 0) = fun _ => 0 := by
  funext i
  simp only [am, List.getD, List.getElem?_replicate]
  split <;> rfl

theorem bal_zero {l : List Arc} {v : Int} : bal l (fun _ => 0) v = 0 := Sm.nil fun i _ => by simp [into]

theorem cut_le {N : Int} {l : List Arc} {S : Int → Bool} (h : NetOk N l) : cutOf l S ≤ 200000000 := by
  have h1 : cutOf l S ≤ Sm l.length (fun _ => 1000000) := Sm.le fun i hi => by
    obtain ⟨_, _, _, _, _, h2, h3⟩ := h.arc i hi
    split <;> omega
  have h2 : ∀ n : Nat, Sm n (fun _ => 1000000) = n * 1000000 := by
    intro n
    induction n with
    | zero => rfl
    | succ n ih => simp only [Sm, ih]; omega
  rw [h2] at h1
  have := h.len
  omega

theorem gr_first {N : Int} {l : List Arc} {sum : Int} {xs : List Int} (h : NetOk N l) (hp : PushOk l 0 (List.replicate l.length 0) 0 (N - 1) 200000000 sum xs) : GrTo N l (am xs) 0 := by
  obtain ⟨h0, h1, hm, hc⟩ := hp
  have h2 := h.two
  have hb : ∀ v, bal l (am xs) v = (if N - 1 = v then sum else 0) - (if 0 = v then sum else 0) := fun v => by
    rw [hm.bal, zeros_am, bal_zero]; omega
  have hf : IsFlow N l (am xs) := ⟨hm.range, fun v hv0 hvN => by rw [hb, if_neg (by omega), if_neg (by omega)]; rfl⟩
  have hv : val l (am xs) = sum := by unfold val; rw [hb, if_neg (by omega), if_pos rfl]; omega
  refine ⟨hf, ?_, fun g _ _ j hj => by omega⟩
  rcases hc with hc | ⟨S, hS1, hS2, hS3⟩
  · have hS : Side N (only 0) := ⟨rfl, by simp [only]; omega⟩
    refine ⟨only 0, hS, ?_⟩
    have h3 := val_le_cut h hf hS
    have h4 := cut_le (S := only 0) h
    omega
  · exact ⟨S, ⟨hS1, hS2⟩, cut_of_closed h hf ⟨hS1, hS2⟩ hS3⟩

theorem gr_next {N : Int} {l : List Arc} {sum : Int} {xs xs1 : List Int} {i : Nat} (h : NetOk N l) (hi : i < l.length) (hl : xs.length = l.length) (hg : GrTo N l (am xs) i) (hp : PushOk l (i + 1) xs (arcAt l i).fr (arcAt l i).to (xs.getD i 0) sum xs1) :
    GrTo N l (am (xs1.set i (xs.getD i 0 - sum))) (i + 1) := by
  obtain ⟨h0, h1, hm, hc⟩ := hp
  have hxl := hm.len
  have hsk : xs1.getD i 0 = xs.getD i 0 := hm.skip i (by omega)
  obtain ⟨a1, a2, a3, a4, a5, a6, a7⟩ := h.arc i hi
  have r1 : 0 ≤ xs.getD i 0 := (hg.flow.range i hi).1
  have r2 : xs.getD i 0 ≤ (arcAt l i).cap := (hg.flow.range i hi).2
  have hset : ∀ j, am (xs1.set i (xs.getD i 0 - sum)) j = if i = j then xs.getD i 0 - sum else am xs1 j := fun j => by
    simp only [am]; rw [getD_set (by omega)]
  have hb : ∀ v, bal l (am (xs1.set i (xs.getD i 0 - sum))) v = bal l (am xs) v := fun v => by
    have := bal_set (y := -sum) (by omega : xs1.length = l.length) hi v
    rw [hsk, ← Int.sub_eq_add_neg] at this
    rw [this, hm.bal v]
    split <;> split <;> omega
  have hr : inRange l (am (xs1.set i (xs.getD i 0 - sum))) := fun j hj => by
    rw [hset]
    by_cases e : i = j
    · subst e; rw [if_pos rfl]; omega
    · rw [if_neg e]; exact hm.range j hj
  have hf : IsFlow N l (am (xs1.set i (xs.getD i 0 - sum))) := ⟨hr, fun v h2 h3 => by rw [hb]; exact hg.flow.kept v h2 h3⟩
  have hv : val l (am (xs1.set i (xs.getD i 0 - sum))) = val l (am xs) := by unfold val; rw [hb]
  refine ⟨hf, ?_, fun g hgf hgv j hj hjl hpre => ?_⟩
  · obtain ⟨S, hS, he⟩ := hg.cut
    exact ⟨S, hS, hv.trans he⟩
  · by_cases e : j = i
    · subst e
      rw [hset, if_pos rfl]
      rcases hc with hc | ⟨S, hS1, hS2, hS3⟩
      · have := (hgf.range j hi).1; omega
      · have hpot : pot l (am (xs1.set j (xs.getD j 0 - sum))) S = pot l g S := by
          have e1 := sink_bal h hf.kept
          have e2 := sink_bal h hgf.kept
          have e3 : bal l (am (xs1.set j (xs.getD j 0 - sum))) 0 = bal l g 0 := by unfold val at hgv; omega
          rw [flow_pot h hf.kept S, flow_pot h hgf.kept S, e3, e1, e2, hgv]
        by_cases hle : xs.getD j 0 - sum ≤ g j
        · exact hle
        · exfalso
          have hterm : ∀ m, m < l.length → into l (am (xs1.set j (xs.getD j 0 - sum))) S m ≤ into l g S m := by
            intro m hml
            obtain ⟨g1, g2⟩ := hgf.range m hml
            by_cases e1 : m < j
            · unfold into; rw [hpre m e1]; exact Int.le_refl _
            · by_cases e2 : j = m
              · subst e2
                unfold into
                rw [hset, if_pos rfl, hS1, hS2]
                simp only [Bool.false_eq_true, if_false, if_true]
                omega
              · obtain ⟨c1, c2⟩ := hS3 m (by omega) hml
                obtain ⟨m1, m2⟩ := hm.range m hml
                unfold into
                rw [hset, if_neg e2]
                cases e3 : S (arcAt l m).fr <;> cases e4 : S (arcAt l m).to <;> simp [e3, e4] at c1 c2 ⊢ <;> omega
          have := Sm.tight hterm (by unfold pot at hpot; omega) j hi
          unfold into at this
          rw [hset, if_pos rfl, hS1, hS2] at this
          simp only [Bool.false_eq_true, if_false, if_true] at this
          omega
    · have h5 : am (xs1.set i (xs.getD i 0 - sum)) j = am xs j := by
        rw [hset, if_neg (by omega)]; exact hm.skip j (by omega)
      rw [h5]
      refine hg.least g hgf (hgv.trans hv) j (by omega) hjl fun m hmj => ?_
      rw [hpre m hmj, hset, if_neg (by omega)]
      exact hm.skip m (by omega)

/-- There is but one. -/
theorem gr_unique {N : Int} {l : List Arc} {x y : Nat → Int} (h : NetOk N l) (hx : Gr N l x) (hy : Gr N l y) : ∀ i, i < l.length → x i = y i := by
  have hv : val l x = val l y := by
    obtain ⟨S, hS, e⟩ := hx.cut
    obtain ⟨T, hT, e2⟩ := hy.cut
    have h1 := val_le_cut h hy.flow hS
    have h2 := val_le_cut h hx.flow hT
    omega
  intro i
  induction i using Nat.strongRecOn with
  | _ i ih =>
    intro hi
    have h1 := hx.least y hy.flow hv.symm i hi hi (fun m hm => (ih m hm (by omega)).symm)
    have h2 := hy.least x hx.flow hv i hi hi (fun m hm => ih m hm (by omega))
    omega

end Go.Proofs.Ytgkmpidihgbkdaa
