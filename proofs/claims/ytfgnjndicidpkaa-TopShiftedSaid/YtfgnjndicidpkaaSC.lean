/- Gains and leases, without any program. -/
import Derived.Test.YtfgnjndicidpkaaSB
namespace Go.Proofs.Ytfgnjndicidpkaa

variable {n : Nat} {V W : Nat → Nat → Int} {a o b ob : Nat → Nat} {c d : Nat → Int} {f g : Nat → Nat}

/-- By how much the gain of one agent is at least greater than that of another one. -/
def leads (n : Nat) (V : Nat → Nat → Int) (a o : Nat → Nat) (i k : Nat) : Int := V i (a i) - V k (a k) + links n V o (a i) (a k)

theorem leads_self (ho : Opt n V a) (hi : Inv n a o) {i : Nat} (h : i < n) : leads n V a o i i = 0 := by
  unfold leads; rw [links_diag ho hi (ho.asg.lt i h)]; omega

/-- The gains' leads are the same, whatever the optimal assignment. -/
theorem leads_same (ho : Opt n V a) (hi : Inv n a o) (hb : Opt n V b) (hbi : Inv n b ob) {i k : Nat} (h1 : i < n) (h2 : k < n) : leads n V b ob i k = leads n V a o i k := by
  have key : ∀ {a o b ob : Nat → Nat}, Opt n V a → Inv n a o → Opt n V b → Inv n b ob → leads n V b ob i k ≤ leads n V a o i k := by
    intro a o b ob ho hi hb hbi
    have hp := links_fea ho hi (ho.asg.lt i h1)
    obtain ⟨hf, hg⟩ := fea_all ho hb hp
    have e1 := hg i h1
    have e2 := hg k h2
    have e3 := links_le hb.asg hbi hf (hb.asg.lt i h1) (hb.asg.lt k h2)
    have e4 := links_diag ho hi (ho.asg.lt i h1)
    unfold leads
    omega
  have h3 := key ho hi hb hbi
  have h4 := key hb hbi ho hi
  omega

/-- Leads do not see what is the same for all agents, nor what rooms do. -/
theorem leads_shift {m : Int} (h : Shift n V W c d f g) (hc : ∀ i, i < n → c i = m) (ho : Opt n V a) (hi : Inv n a o) (hb : Opt n W b) (hbi : Inv n b ob) {i k : Nat} (h1 : i < n) (h2 : k < n) : leads n W b ob (f i) (f k) = leads n V a o i k := by
  obtain ⟨a2, ha2, hc2⟩ := carry_back h hb.asg
  have ho2 := opt_back h hb ha2 hc2
  have : ∀ j, ∃ i, j < n → i < n ∧ a2 i = j := fun j => by
    by_cases hj : j < n
    · obtain ⟨i, hi, e⟩ := ha2.onto j hj
      exact ⟨i, fun _ => ⟨hi, e⟩⟩
    · exact ⟨0, fun h => absurd h hj⟩
  obtain ⟨o2, ho2'⟩ := Classical.axiomOfChoice this
  have hi2 : Inv n a2 o2 := ⟨fun j hj => (ho2' j hj).1, fun j hj => (ho2' j hj).2⟩
  rw [← leads_same ho hi ho2 hi2 h1 h2]
  unfold leads
  rw [hc2 i h1, hc2 k h2, h.eq i _ h1 (ha2.lt i h1), h.eq k _ h2 (ha2.lt k h2), links_shift h ho2 hi2 hb hbi (ha2.lt i h1) (ha2.lt k h2), hc i h1, hc k h2]
  omega

/-- Gains by which nobody envies. -/
def Calm (n : Nat) (V : Nat → Nat → Int) (a : Nat → Nat) (γ : Nat → Int) : Prop := ∀ i m, i < n → m < n → γ m + V i (a m) - V m (a m) ≤ γ i

theorem leads_step (ho : Opt n V a) (hi : Inv n a o) {i m x : Nat} (h1 : i < n) (h2 : m < n) (h3 : x < n) : V i (a m) - V m (a m) + leads n V a o m x ≤ leads n V a o i x := by
  have e1 := links_tri ho hi (ho.asg.lt i h1) (ho.asg.lt m h2) (ho.asg.lt x h3)
  have e2 := fw_up (w := link V o) n (a i) (a m)
  unfold link at e2
  rw [hi.back ho.asg i h1] at e2
  have e3 : V i (a m) - V i (a i) ≤ links n V o (a i) (a m) := e2
  unfold leads
  omega
theorem leads_step' (ho : Opt n V a) (hi : Inv n a o) {i m x : Nat} (h1 : i < n) (h2 : m < n) (h3 : x < n) : leads n V a o x i + (V i (a m) - V m (a m)) ≤ leads n V a o x m := by
  have e1 := links_tri ho hi (ho.asg.lt x h3) (ho.asg.lt i h1) (ho.asg.lt m h2)
  have e2 := fw_up (w := link V o) n (a i) (a m)
  unfold link at e2
  rw [hi.back ho.asg i h1] at e2
  have e3 : V i (a m) - V i (a i) ≤ links n V o (a i) (a m) := e2
  unfold leads
  omega

/-- The prices of gains without envy prove the assignment. -/
theorem calm_fea {γ : Nat → Int} {p : Nat → Int} (ho : Opt n V a) (hc : Calm n V a γ) (hp : ∀ i, i < n → p (a i) = V i (a i) - γ i) : Fea n V a p := fun i hi k hk => by
  obtain ⟨m, hm, rfl⟩ := ho.asg.onto k hk
  rw [hp i hi, hp m hm]
  have := hc i m hi hm
  omega

/-- The prices before they are shortened: of gains, times the number of rooms, so that they come to the rent. -/
def restOf (n : Nat) (V : Nat → Nat → Int) (rent : Int) (a : Nat → Nat) (γ : Nat → Int) : Int := -rent + Sm n (fun i => V i (a i) - γ i)
structure Priced (n : Nat) (V : Nat → Nat → Int) (rent : Int) (a : Nat → Nat) (γ : Nat → Int) (P : Nat → Int) : Prop where
  eq : ∀ i, i < n → P (a i) = n * (V i (a i) - γ i) - restOf n V rent a γ

theorem priced_sum {rent : Int} {γ P : Nat → Int} (ha : Asg n a) (h : Priced n V rent a γ P) : Sm n P = rent * n := by
  rw [← Sm.perm ha P, Sm.congr (h.eq), Sm.sub, Sm.const]
  have : Sm n (fun i => (n : Int) * (V i (a i) - γ i)) = n * Sm n (fun i => V i (a i) - γ i) := by
    have key : ∀ (c : Int) (m : Nat) (q : Nat → Int), Sm m (fun i => c * q i) = c * Sm m q := fun c m q => by
      induction m with
      | zero => simp [Sm]
      | succ m ih => simp only [Sm, ih, Int.mul_add]
    exact key _ _ _
  rw [this]
  unfold restOf
  rw [Int.mul_add, Int.mul_neg, Int.mul_comm (n : Int) rent]
  omega

/-- Prices move by what their rooms do, each cent counted as often as there are rooms. -/
theorem priced_shift {m rent rent' : Int} {γ γ' P Q : Nat → Int} (h : Shift n V W c d f g) (hc : ∀ i, i < n → c i = m) (hrent : rent' = rent + Sm n d) (ho : Opt n V a) (hb : Opt n W b) (hγ : Calm n V a γ) (hγ' : ∀ i, i < n → γ' (f i) = γ i)
    (hP : Priced n V rent a γ P) (hQ : Priced n W rent' b γ' Q) : ∀ j, j < n → Q (g j) = P j + n * d j := by
  obtain ⟨a2, ha2, hc2⟩ := carry_back h hb.asg
  have ho2 := opt_back h hb ha2 hc2
  -- the price of each room, before the rent
  have hp : ∃ p : Nat → Int, ∀ i, i < n → p (a i) = V i (a i) - γ i := by
    have : ∀ j, ∃ z : Int, ∀ i, i < n → a i = j → z = V i j - γ i := fun j => by
      by_cases e : ∃ i, i < n ∧ a i = j
      · obtain ⟨i, hi, rfl⟩ := e
        exact ⟨V i (a i) - γ i, fun i' hi' e => by rw [ho.asg.inj _ _ hi' hi e]⟩
      · exact ⟨0, fun i hi e' => absurd ⟨i, hi, e'⟩ e⟩
    obtain ⟨p, hp⟩ := Classical.axiomOfChoice this
    exact ⟨p, fun i hi => hp (a i) i hi rfl⟩
  obtain ⟨p, hp⟩ := hp
  have hfea := calm_fea ho hγ hp
  have hall := (fea_all ho ho2 hfea).2
  have hval : valOf n V a2 = valOf n V a := by
    have h1 := ho.most a2 ha2
    have h2 := ho2.most a ho.asg
    omega
  have hrest : restOf n W rent' b γ' = restOf n V rent a γ + n * m := by
    unfold restOf
    have e1 : Sm n (fun x => W x (b x) - γ' x) = Sm n (fun i => (V i (a2 i) - γ i) + (m + d (a2 i))) := by
      rw [← Sm.perm h.ag (fun x => W x (b x) - γ' x)]
      exact Sm.congr fun i hi => by rw [hc2 i hi, hγ' i hi, h.eq i _ hi (ha2.lt i hi), hc i hi]; omega
    have e2 : Sm n (fun i => V i (a2 i) - γ i) = Sm n (fun i => V i (a i) - γ i) := by
      rw [Sm.sub, Sm.sub]
      unfold valOf at hval
      rw [hval]
    rw [e1, Sm.add, Sm.add, e2, Sm.perm ha2 d, Sm.const, hrent]
    omega
  intro j hj
  obtain ⟨i, hi, rfl⟩ := ha2.onto j hj
  obtain ⟨i', hi', e⟩ := ho.asg.onto (a2 i) (ha2.lt i hi)
  rw [← hc2 i hi, hQ.eq (f i) (h.ag.lt i hi), hc2 i hi, hγ' i hi, h.eq i _ hi (ha2.lt i hi), hc i hi, hrest]
  have e3 := hall i hi
  have e4 := hp i' hi'
  have e5 := hp i hi
  have e6 : V i' (a i') - γ i' = V i (a2 i) - γ i := by rw [e] at e4 ⊢; omega
  have e7 := hP.eq i' hi'
  rw [e6] at e7
  rw [← e, e7, e]
  have e8 : (n : Int) * (V i (a2 i) + m + d (a2 i) - γ i) = n * (V i (a2 i) - γ i) + n * m + n * d (a2 i) := by
    rw [show V i (a2 i) + m + d (a2 i) - γ i = (V i (a2 i) - γ i) + m + d (a2 i) by omega, Int.mul_add, Int.mul_add]
  rw [e8]
  omega

end Go.Proofs.Ytfgnjndicidpkaa
