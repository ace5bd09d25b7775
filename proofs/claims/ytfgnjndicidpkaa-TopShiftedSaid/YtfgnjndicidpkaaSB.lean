/- Prices that prove an assignment; the greatest walks between items; what is shifted: without any program. -/
import Derived.Test.YtfgnjndicidpkaaSA
namespace Go.Proofs.Ytfgnjndicidpkaa

/-- Prices by which nobody wants another item than its own. -/
def Fea (n : Nat) (V : Nat → Nat → Int) (a : Nat → Nat) (p : Nat → Int) : Prop := ∀ i, i < n → ∀ k, k < n → p (a i) + V i k - V i (a i) ≤ p k

/-- Who has what. -/
structure Inv (n : Nat) (a o : Nat → Nat) : Prop where
  lt : ∀ j, j < n → o j < n
  at' : ∀ j, j < n → a (o j) = j

def link (V : Nat → Nat → Int) (o : Nat → Nat) (j k : Nat) : Int := V (o j) k - V (o j) j

variable {n : Nat} {V : Nat → Nat → Int} {a o : Nat → Nat}

theorem Inv.asg (h : Inv n a o) : Asg n o := ⟨h.lt, fun i j hi hj e => by rw [← h.at' i hi, ← h.at' j hj, e]⟩
theorem Inv.back (ha : Asg n a) (h : Inv n a o) : ∀ i, i < n → o (a i) = i := fun i hi => ha.inj _ _ (h.lt _ (ha.lt i hi)) hi (h.at' _ (ha.lt i hi))

theorem opt_circle (ho : Opt n V a) (hi : Inv n a o) : ∀ x l, (∀ y ∈ x :: l, y < n) → (x :: l).Nodup → pw (link V o) (x :: l ++ [x]) ≤ 0 := fun x l hl hd => by
  have hq := circle_asg hl hd
  have hmost := ho.most _ (ho.asg.comp hq)
  have e1 : valOf n V (fun i => fol (x :: l ++ [x]) (a i)) - valOf n V a = Sm n (fun i => V i (fol (x :: l ++ [x]) (a i)) - V i (a i)) := by unfold valOf; rw [Sm.sub]
  have e2 := Sm.perm hi.asg (fun i => V i (fol (x :: l ++ [x]) (a i)) - V i (a i))
  have e3 : Sm n (fun j => link V o j (fol (x :: l ++ [x]) j)) = pw (link V o) (x :: l ++ [x]) := by
    refine fol_weight (fun j _ => by unfold link; omega) (fun y hy => hl y ?_) ?_
    · simp at hy ⊢
      exact hy.elim .inl (fun h => h.elim .inr .inl)
    · rw [show (x :: l ++ [x]).dropLast = x :: l from List.dropLast_concat]; exact hd
  have e4 : Sm n (fun j => link V o j (fol (x :: l ++ [x]) j)) = Sm n (fun j => V (o j) (fol (x :: l ++ [x]) (a (o j))) - V (o j) (a (o j))) := Sm.congr fun j hj => by unfold link; rw [hi.at' j hj]
  omega

/-! ### The greatest walks, stage by stage -/

def fw (w : Nat → Nat → Int) : Nat → Nat → Nat → Int
  | 0, j, k => w j k
  | t + 1, j, k => max (fw w t j k) (fw w t j t + fw w t t k)

section
variable {w : Nat → Nat → Int}

theorem fw_walk : ∀ (t : Nat), t ≤ n → ∀ j k, j < n → k < n → ∃ l, (∀ y ∈ l, y < n) ∧ pw w (j :: l ++ [k]) = fw w t j k
  | 0, _, j, k, _, _ => ⟨[], by simp, by simp [pw, fw]⟩
  | t + 1, ht, j, k, hj, hk => by
    obtain ⟨l1, h1, e1⟩ := fw_walk t (by omega) j k hj hk
    obtain ⟨l2, h2, e2⟩ := fw_walk t (by omega) j t hj (by omega)
    obtain ⟨l3, h3, e3⟩ := fw_walk t (by omega) t k (by omega) hk
    by_cases e : fw w t j t + fw w t t k ≤ fw w t j k
    · exact ⟨l1, h1, by rw [e1]; simp only [fw]; omega⟩
    · refine ⟨l2 ++ t :: l3, fun y hy => ?_, ?_⟩
      · simp at hy
        rcases hy with hy | rfl | hy
        · exact h2 y hy
        · omega
        · exact h3 y hy
      · have := pw_app w (j :: l2) t (l3 ++ [k])
        simp only [List.cons_append, List.append_assoc] at this e2 e3 ⊢
        rw [this, e2, e3]
        simp only [fw]
        omega

theorem fw_up : ∀ (t : Nat) j k, w j k ≤ fw w t j k
  | 0, _, _ => Int.le_refl _
  | t + 1, j, k => by have := fw_up t j k; simp only [fw]; omega

theorem fw_diag (hw : ∀ j, j < n → w j j = 0) (hs : ∀ x l, (∀ y ∈ x :: l, y < n) → (x :: l).Nodup → pw w (x :: l ++ [x]) ≤ 0) {t : Nat} (ht : t ≤ n) {j : Nat} (hj : j < n) : fw w t j j = 0 := by
  obtain ⟨l, hl, e⟩ := fw_walk (w := w) t ht j j hj hj
  have h1 := closed_walk hs l.length j l (Nat.le_refl _) (fun y hy => by
    simp at hy
    rcases hy with rfl | hy
    · exact hj
    · exact hl y hy)
  have h2 := fw_up (w := w) t j j
  rw [hw j hj] at h2
  omega

theorem fw_tri (hw : ∀ j, j < n → w j j = 0) (hs : ∀ x l, (∀ y ∈ x :: l, y < n) → (x :: l).Nodup → pw w (x :: l ++ [x]) ≤ 0) : ∀ (t : Nat), t ≤ n → ∀ m, m < t → ∀ j k, j < n → k < n → fw w t j m + fw w t m k ≤ fw w t j k
  | 0, _, m, hm, _, _, _, _ => by omega
  | t + 1, ht, m, hm, j, k, hj, hk => by
    have ih := fw_tri hw hs t (by omega)
    have d0 := fw_diag hw hs (t := t) (by omega) (j := t) (by omega)
    simp only [fw]
    by_cases e : m = t
    · subst e; omega
    · have h1 := ih m (by omega) j k hj hk
      have h2 := ih m (by omega) j t hj (by omega)
      have h3 := ih m (by omega) t k (by omega) hk
      have h4 := ih m (by omega) t t (by omega) (by omega)
      omega

theorem fw_fea {p : Nat → Int} (hp : ∀ j k, j < n → k < n → w j k ≤ p k - p j) : ∀ (t : Nat), t ≤ n → ∀ j k, j < n → k < n → fw w t j k ≤ p k - p j
  | 0, _, j, k, hj, hk => hp j k hj hk
  | t + 1, ht, j, k, hj, hk => by
    have h1 := fw_fea hp t (by omega) j k hj hk
    have h2 := fw_fea hp t (by omega) j t hj (by omega)
    have h3 := fw_fea hp t (by omega) t k (by omega) hk
    simp only [fw]
    omega
end

/-! ### The links of an optimal assignment -/

abbrev links (n : Nat) (V : Nat → Nat → Int) (o : Nat → Nat) : Nat → Nat → Int := fw (link V o) n

theorem link_self : ∀ j, j < n → link V o j j = 0 := fun j _ => by unfold link; omega

theorem links_diag (ho : Opt n V a) (hi : Inv n a o) {j : Nat} (hj : j < n) : links n V o j j = 0 := fw_diag link_self (opt_circle ho hi) (Nat.le_refl _) hj
theorem links_tri (ho : Opt n V a) (hi : Inv n a o) {j m k : Nat} (hj : j < n) (hm : m < n) (hk : k < n) : links n V o j m + links n V o m k ≤ links n V o j k := fw_tri link_self (opt_circle ho hi) n (Nat.le_refl _) m hm j k hj hk

theorem links_le (ha : Asg n a) (hi : Inv n a o) {p : Nat → Int} (hp : Fea n V a p) {j k : Nat} (hj : j < n) (hk : k < n) : links n V o j k ≤ p k - p j := by
  refine fw_fea (n := n) (fun j k hj hk => ?_) n (Nat.le_refl _) j k hj hk
  have := hp (o j) (hi.lt j hj) k hk
  rw [hi.at' j hj] at this
  unfold link
  omega

/-- The links from one item are prices. -/
theorem links_fea (ho : Opt n V a) (hi : Inv n a o) {j : Nat} (hj : j < n) : Fea n V a (links n V o j) := fun i hin k hk => by
  have h1 := links_tri ho hi hj (ho.asg.lt i hin) hk
  have h2 := fw_up (w := link V o) n (a i) k
  unfold link at h2
  rw [hi.back ho.asg i hin] at h2
  show links n V o j (a i) + V i k - V i (a i) ≤ links n V o j k
  have h3 : V i k - V i (a i) ≤ links n V o (a i) k := h2
  omega

/-- Prices that prove one optimal assignment prove all, and each agent gains the same by them. -/
theorem fea_all {b : Nat → Nat} (ho : Opt n V a) (hb : Opt n V b) {p : Nat → Int} (hp : Fea n V a p) : Fea n V b p ∧ ∀ i, i < n → V i (b i) - p (b i) = V i (a i) - p (a i) := by
  have hle : ∀ i, i < n → V i (b i) - p (b i) ≤ V i (a i) - p (a i) := fun i hi => by
    have := hp i hi (b i) (hb.asg.lt i hi)
    omega
  have hv : valOf n V a ≤ valOf n V b := hb.most a ho.asg
  have e1 : Sm n (fun i => V i (b i) - p (b i)) = valOf n V b - Sm n p := by rw [Sm.sub, Sm.perm hb.asg]; rfl
  have e2 : Sm n (fun i => V i (a i) - p (a i)) = valOf n V a - Sm n p := by rw [Sm.sub, Sm.perm ho.asg]; rfl
  have heq := Sm.tight hle (by rw [e1, e2]; omega)
  refine ⟨fun i hi k hk => ?_, heq⟩
  have h1 := hp i hi k hk
  have h2 := heq i hi
  omega

theorem links_same {b ob : Nat → Nat} (ho : Opt n V a) (hi : Inv n a o) (hb : Opt n V b) (hbi : Inv n b ob) {j k : Nat} (hj : j < n) (hk : k < n) : links n V ob j k = links n V o j k := by
  have h1 := links_le hb.asg hbi (fea_all ho hb (links_fea ho hi hj)).1 hj hk
  have h2 := links_le ho.asg hi (fea_all hb ho (links_fea hb hbi hj)).1 hj hk
  rw [links_diag ho hi hj] at h1
  rw [links_diag hb hbi hj] at h2
  omega

/-! ### What is shifted -/

/-- The same flat by other numbers, with so much more for agents and for rooms. -/
structure Shift (n : Nat) (V W : Nat → Nat → Int) (c d : Nat → Int) (f g : Nat → Nat) : Prop where
  ag : Asg n f
  it : Asg n g
  eq : ∀ i j, i < n → j < n → W (f i) (g j) = V i j + c i + d j

variable {W : Nat → Nat → Int} {c d : Nat → Int} {f g : Nat → Nat}

/-- An assignment by the other numbers. -/
def carried (n : Nat) (f g a b : Nat → Nat) : Prop := ∀ i, i < n → b (f i) = g (a i)

theorem carried_asg (h : Shift n V W c d f g) {b : Nat → Nat} (ha : Asg n a) (hc : carried n f g a b) : Asg n b := by
  refine ⟨fun x hx => ?_, fun x y hx hy e => ?_⟩
  · obtain ⟨i, hi, rfl⟩ := h.ag.onto x hx
    rw [hc i hi]; exact h.it.lt _ (ha.lt i hi)
  · obtain ⟨i, hi, rfl⟩ := h.ag.onto x hx
    obtain ⟨j, hj, rfl⟩ := h.ag.onto y hy
    rw [hc i hi, hc j hj] at e
    rw [ha.inj i j hi hj (h.it.inj _ _ (ha.lt i hi) (ha.lt j hj) e)]

theorem carried_val (h : Shift n V W c d f g) {b : Nat → Nat} (ha : Asg n a) (hc : carried n f g a b) : valOf n W b = valOf n V a + (Sm n c + Sm n d) := by
  unfold valOf
  rw [← Sm.perm h.ag (fun x => W x (b x))]
  have : Sm n (fun i => W (f i) (b (f i))) = Sm n (fun i => V i (a i) + (c i + d (a i))) := Sm.congr fun i hi => by
    rw [hc i hi, h.eq i (a i) hi (ha.lt i hi)]; omega
  rw [this, Sm.add, Sm.add, Sm.perm ha d]

/-- Each assignment by the new numbers is one by the old ones. -/
theorem carry_back (h : Shift n V W c d f g) {b : Nat → Nat} (hb : Asg n b) : ∃ a, Asg n a ∧ carried n f g a b := by
  have : ∀ i, ∃ j, i < n → j < n ∧ g j = b (f i) := fun i => by
    by_cases hi : i < n
    · obtain ⟨j, hj, e⟩ := h.it.onto (b (f i)) (hb.lt _ (h.ag.lt i hi))
      exact ⟨j, fun _ => ⟨hj, e⟩⟩
    · exact ⟨0, fun h => absurd h hi⟩
  obtain ⟨a, ha⟩ := Classical.axiomOfChoice this
  refine ⟨a, ⟨fun i hi => (ha i hi).1, fun i j hi hj e => ?_⟩, fun i hi => (ha i hi).2.symm⟩
  have : b (f i) = b (f j) := by rw [← (ha i hi).2, ← (ha j hj).2, e]
  exact h.ag.inj i j hi hj (hb.inj _ _ (h.ag.lt i hi) (h.ag.lt j hj) this)

theorem carried_opt (h : Shift n V W c d f g) {b : Nat → Nat} (ho : Opt n V a) (hc : carried n f g a b) : Opt n W b := by
  refine ⟨carried_asg h ho.asg hc, fun x hx => ?_⟩
  obtain ⟨y, hy, hcy⟩ := carry_back h hx
  rw [carried_val h hy hcy, carried_val h ho.asg hc]
  have := ho.most y hy
  omega

theorem opt_back (h : Shift n V W c d f g) {b : Nat → Nat} (hb : Opt n W b) (ha : Asg n a) (hc : carried n f g a b) : Opt n V a := by
  refine ⟨ha, fun x hx => ?_⟩
  have : ∀ y, ∃ z, y < n → (∃ i, i < n ∧ f i = y ∧ z = g (x i)) := fun y => by
    by_cases hy : y < n
    · obtain ⟨i, hi, e⟩ := h.ag.onto y hy
      exact ⟨g (x i), fun _ => ⟨i, hi, e, rfl⟩⟩
    · exact ⟨0, fun h => absurd h hy⟩
  obtain ⟨z, hz⟩ := Classical.axiomOfChoice this
  have hcz : carried n f g x z := fun i hi => by
    obtain ⟨i', hi', e, e2⟩ := hz (f i) (h.ag.lt i hi)
    rw [e2, h.ag.inj _ _ hi' hi e]
  have h1 := hb.most z (carried_asg h hx hcz)
  rw [carried_val h hx hcz, carried_val h ha hc] at h1
  omega

/-- Prices move by what their rooms do. -/
theorem fea_shift (h : Shift n V W c d f g) {b : Nat → Nat} {p q : Nat → Int} (ha : Asg n a) (hc : carried n f g a b) (hpq : ∀ j, j < n → q (g j) = p j + d j) (hp : Fea n V a p) : Fea n W b q := fun x hx k hk => by
  obtain ⟨i, hi, rfl⟩ := h.ag.onto x hx
  obtain ⟨m, hm, rfl⟩ := h.it.onto k hk
  rw [hc i hi, h.eq i m hi hm, h.eq i (a i) hi (ha.lt i hi), hpq _ (ha.lt i hi), hpq _ hm]
  have := hp i hi m hm
  omega
theorem fea_unshift (h : Shift n V W c d f g) {b : Nat → Nat} {p q : Nat → Int} (ha : Asg n a) (hc : carried n f g a b) (hpq : ∀ j, j < n → q (g j) = p j + d j) (hq : Fea n W b q) : Fea n V a p := fun i hi m hm => by
  have := hq (f i) (h.ag.lt i hi) (g m) (h.it.lt m hm)
  rw [hc i hi, h.eq i m hi hm, h.eq i (a i) hi (ha.lt i hi), hpq _ (ha.lt i hi), hpq _ hm] at this
  omega

/-- Links move by what their rooms do, whatever the optimal assignments. -/
theorem links_shift (h : Shift n V W c d f g) {b ob : Nat → Nat} (ho : Opt n V a) (hi : Inv n a o) (hb : Opt n W b) (hbi : Inv n b ob) {j k : Nat} (hj : j < n) (hk : k < n) : links n W ob (g j) (g k) = links n V o j k + d k - d j := by
  obtain ⟨a2, ha2, hc2⟩ := carry_back h hb.asg
  have ho2 := opt_back h hb ha2 hc2
  -- upwards: the links of the first, moved, are prices of the second
  have up : links n W ob (g j) (g k) ≤ links n V o j k + d k - d j := by
    have hf := (fea_all ho ho2 (links_fea ho hi hj)).1
    have : ∀ y, ∃ z : Int, ∀ m, m < n → g m = y → z = links n V o j m + d m := fun y => by
      by_cases e : ∃ m, m < n ∧ g m = y
      · obtain ⟨m, hm, rfl⟩ := e
        exact ⟨links n V o j m + d m, fun m' hm' e => by rw [h.it.inj _ _ hm' hm e]⟩
      · exact ⟨0, fun m hm e' => absurd ⟨m, hm, e'⟩ e⟩
    obtain ⟨q, hq⟩ := Classical.axiomOfChoice this
    have hfea := fea_shift h ha2 hc2 (p := links n V o j) (q := q) (fun m hm => hq (g m) m hm rfl) hf
    have := links_le hb.asg hbi hfea (h.it.lt j hj) (h.it.lt k hk)
    rw [hq (g k) k hk rfl, hq (g j) j hj rfl, links_diag ho hi hj] at this
    omega
  have down : links n V o j k ≤ links n W ob (g j) (g k) - d k + d j := by
    have hf := links_fea hb hbi (h.it.lt j hj)
    have hfea := fea_unshift h ha2 hc2 (p := fun m => links n W ob (g j) (g m) - d m) (q := links n W ob (g j)) (fun m _ => by omega) hf
    have := links_le ho.asg hi (fea_all ho2 ho hfea).1 hj hk
    have hd := links_diag hb hbi (h.it.lt j hj)
    simp only [hd] at this
    omega
  omega

end Go.Proofs.Ytfgnjndicidpkaa
