/- What is shifted: the law on lists, without any program. -/
import Derived.Test.YtfgnjndicidpkaaSY
namespace Go.Proofs.Ytfgnjndicidpkaa

theorem Sm.mulr {n : Nat} {g : Nat → Int} {c : Int} : Sm n (fun i => g i * c) = Sm n g * c := by
  induction n with
  | zero => simp [Sm]
  | succ n ih => simp only [Sm, ih, Int.add_mul]

section
variable {M H : List (List Int)} {c d : Nat → Int} {f g : Nat → Nat}

theorem ld_leads {b : List Int} {o : Nat → Nat} (ho : Opt M.length (matM M) (asgOf b)) (hi : Inv M.length (asgOf b) o) {i k : Nat} (h1 : i < M.length) (h2 : k < M.length) : ldOf M b i k = leads M.length (matM M) (asgOf b) o i k := by
  unfold ldOf leads
  rw [LK_eq ho hi (ho.asg.lt i h1) (ho.asg.lt k h2)]

theorem law_val {a b : Nat → Nat} {n : Nat} {V W : Nat → Nat → Int} (h : Shift n V W c d f g) (ho : Opt n V a) (hb : Opt n W b) : valOf n W b = valOf n V a + (Sm n c + Sm n d) := by
  obtain ⟨a2, ha2, hc2⟩ := carry_back h hb.asg
  have ho2 := opt_back h hb ha2 hc2
  rw [carried_val h ha2 hc2]
  have h1 := ho.most a2 ha2
  have h2 := ho2.most a ho.asg
  omega

theorem law_link (h : Shift M.length (matM M) (matM H) c d f g) (hl : H.length = M.length) (hM : HasOpt M) (hH : HasOpt H) {j k : Nat} (hj : j < M.length) (hk : k < M.length) : LK H (g j) (g k) = LK M j k + d k - d j := by
  obtain ⟨a, o, ho, hi⟩ := hM
  obtain ⟨b, ob, hb, hbi⟩ := hH
  rw [← LK_eq ho hi hj hk, ← LK_eq hb hbi (by rw [hl]; exact h.it.lt j hj) (by rw [hl]; exact h.it.lt k hk)]
  rw [hl] at hb hbi ⊢
  exact links_shift h ho hi hb hbi hj hk

theorem law_low (h : Shift M.length (matM M) (matM H) c d f g) (hl : H.length = M.length) (hM : HasOpt M) (hH : HasOpt H) {rent : Int} {j : Nat} (hj : j < M.length) : lowOf H (rent + Sm M.length d) (g j) = d j * (M.length : Int) + lowOf M rent j := by
  unfold lowOf
  rw [hl, ← Sm.perm h.it (fun x => LK H x (g j)), Sm.congr (fun x hx => law_link h hl hM hH hx hj), Sm.sub, Sm.add, Sm.const, Int.mul_comm]
  omega

theorem law_high (h : Shift M.length (matM M) (matM H) c d f g) (hl : H.length = M.length) (hM : HasOpt M) (hH : HasOpt H) {rent : Int} {j : Nat} (hj : j < M.length) : highOf H (rent + Sm M.length d) (g j) = d j * (M.length : Int) + highOf M rent j := by
  unfold highOf
  rw [hl, ← Sm.perm h.it (fun x => LK H (g j) x), Sm.congr (fun x hx => law_link h hl hM hH hj hx), Sm.sub, Sm.add, Sm.const, Int.mul_comm]
  have e : Sm M.length (fun x => LK M j x) = Sm M.length (LK M j) := rfl
  omega

theorem law_ld (h : Shift M.length (matM M) (matM H) c d f g) (hl : H.length = M.length) {b b2 : List Int} (ho : Opt M.length (matM M) (asgOf b)) (hb : Opt H.length (matM H) (asgOf b2)) {i k : Nat} (h1 : i < M.length) (h2 : k < M.length) : ldOf H b2 (f i) (f k) = ldOf M b i k + c i - c k := by
  obtain ⟨o, hi⟩ := ho.asg.inv
  obtain ⟨ob, hbi⟩ := hb.asg.inv
  have e1 := ld_leads hb hbi (i := f i) (k := f k) (by rw [hl]; exact h.ag.lt i h1) (by rw [hl]; exact h.ag.lt k h2)
  rw [e1, ld_leads ho hi h1 h2]
  clear e1
  rw [hl] at hb hbi ⊢
  obtain ⟨a2, ha2, hc2⟩ := carry_back h hb.asg
  have ho2 := opt_back h hb ha2 hc2
  obtain ⟨o2, hi2⟩ := ha2.inv
  rw [← leads_same ho hi ho2 hi2 h1 h2]
  unfold leads
  rw [hc2 i h1, hc2 k h2, h.eq i _ h1 (ha2.lt i h1), h.eq k _ h2 (ha2.lt k h2), links_shift h ho2 hi2 hb hbi (ha2.lt i h1) (ha2.lt k h2)]
  omega

/-- A stake's ends, by leads. -/
theorem stake_low {b : List Int} (ho : Opt M.length (matM M) (asgOf b)) {rent : Int} {i : Nat} : matM M i (asgOf b i) * (M.length : Int) - highOf M rent (asgOf b i) = -rent + Sm M.length (ldOf M b i) + valOf M.length (matM M) (asgOf b) := by
  have e : Sm M.length (ldOf M b i) = Sm M.length (fun k => matM M i (asgOf b i) - matM M k (asgOf b k)) + Sm M.length (fun k => LK M (asgOf b i) (asgOf b k)) := Sm.add
  rw [e, Sm.sub, Sm.const, Sm.perm ho.asg (fun x => LK M (asgOf b i) x)]
  unfold highOf valOf
  rw [Int.mul_comm]
  omega
theorem stake_high {b : List Int} (ho : Opt M.length (matM M) (asgOf b)) {rent : Int} {i : Nat} : matM M i (asgOf b i) * (M.length : Int) - lowOf M rent (asgOf b i) = -rent - Sm M.length (fun k => ldOf M b k i) + valOf M.length (matM M) (asgOf b) := by
  have e : Sm M.length (fun k => ldOf M b k i) = Sm M.length (fun k => matM M k (asgOf b k) - matM M i (asgOf b i)) + Sm M.length (fun k => LK M (asgOf b k) (asgOf b i)) := Sm.add
  rw [e, Sm.sub, Sm.const, Sm.perm ho.asg (fun x => LK M x (asgOf b i))]
  unfold lowOf valOf
  rw [Int.mul_comm]
  omega

theorem law_stake1 (h : Shift M.length (matM M) (matM H) c d f g) (hl : H.length = M.length) {b b2 : List Int} (ho : Opt M.length (matM M) (asgOf b)) (hb : Opt H.length (matM H) (asgOf b2)) {rent : Int} {i : Nat} (h1 : i < M.length) :
    matM H (f i) (asgOf b2 (f i)) * (M.length : Int) - highOf H (rent + Sm M.length d) (asgOf b2 (f i)) = c i * (M.length : Int) + (matM M i (asgOf b i) * (M.length : Int) - highOf M rent (asgOf b i)) := by
  have e1 := stake_low hb (rent := rent + Sm M.length d) (i := f i)
  rw [hl] at e1
  have e2 := law_val h ho (hl ▸ hb)
  rw [e1, stake_low ho, e2, ← Sm.perm h.ag (ldOf H b2 (f i)), Sm.congr (fun k hk => law_ld h hl ho hb h1 hk), Sm.sub, Sm.add, Sm.const, Int.mul_comm]
  omega
theorem law_stake2 (h : Shift M.length (matM M) (matM H) c d f g) (hl : H.length = M.length) {b b2 : List Int} (ho : Opt M.length (matM M) (asgOf b)) (hb : Opt H.length (matM H) (asgOf b2)) {rent : Int} {i : Nat} (h1 : i < M.length) :
    matM H (f i) (asgOf b2 (f i)) * (M.length : Int) - lowOf H (rent + Sm M.length d) (asgOf b2 (f i)) = c i * (M.length : Int) + (matM M i (asgOf b i) * (M.length : Int) - lowOf M rent (asgOf b i)) := by
  have e1 := stake_high hb (rent := rent + Sm M.length d) (i := f i)
  rw [hl] at e1
  have e2 := law_val h ho (hl ▸ hb)
  rw [e1, stake_high ho, e2, ← Sm.perm h.ag (fun k => ldOf H b2 k (f i)), Sm.congr (fun k hk => law_ld h hl ho hb hk h1), Sm.sub, Sm.add, Sm.const, Int.mul_comm]
  omega

/-! ### Gains -/

theorem lowTo_le {F : Nat → Nat → Int} {k : Nat} : ∀ n, lowTo F n k ≤ 0 ∧ ∀ x, x < n → lowTo F n k ≤ -(F x k)
  | 0 => ⟨Int.le_refl _, fun x hx => absurd hx (Nat.not_lt_zero _)⟩
  | n + 1 => by
    have ⟨h1, h2⟩ := lowTo_le (F := F) (k := k) n
    simp only [lowTo]
    refine ⟨by omega, fun x hx => ?_⟩
    by_cases e : x = n
    · subst e; omega
    · have := h2 x (by omega); omega
theorem lowTo_has {F : Nat → Nat → Int} {k : Nat} : ∀ n, lowTo F n k = 0 ∨ ∃ x, x < n ∧ lowTo F n k = -(F x k)
  | 0 => .inl rfl
  | n + 1 => by
    simp only [lowTo]
    by_cases e : -(F n k) < lowTo F n k
    · rw [if_pos e]; exact .inr ⟨n, by omega, rfl⟩
    · rw [if_neg e]
      rcases lowTo_has (F := F) (k := k) n with h | ⟨x, hx, h⟩
      · exact .inl h
      · exact .inr ⟨x, by omega, h⟩

/-- The gains of the fair and of the calm lease. -/
def FairG (M : List (List Int)) (b : List Int) (γ : Nat → Int) : Prop := ∀ i, i < M.length → MaxTo (rowM (tab M.length (ldOf M b)) i) M.length (γ i)
def CalmG (M : List (List Int)) (b : List Int) (γ : Nat → Int) : Prop := ∀ i, i < M.length → γ i = lowTo (ldOf M b) M.length i

theorem FairG.spec {b : List Int} {γ : Nat → Int} (h : FairG M b γ) {i : Nat} (hi : i < M.length) : (∃ k, k < M.length ∧ ldOf M b i k = γ i) ∧ ∀ k, k < M.length → ldOf M b i k ≤ γ i := by
  obtain ⟨⟨k, hk, e⟩, h2⟩ := h i hi
  refine ⟨⟨k, hk, ?_⟩, fun x hx => ?_⟩
  · rw [← e]; exact (tab_mat hi hk).symm
  · have := h2 x hx
    rwa [show (rowM (tab M.length (ldOf M b)) i).getD x 0 = ldOf M b i x from tab_mat hi hx] at this

theorem FairG.calm {b : List Int} {γ : Nat → Int} (ho : Opt M.length (matM M) (asgOf b)) (h : FairG M b γ) : Calm M.length (matM M) (asgOf b) γ := fun i m hi hm => by
  obtain ⟨o, hI⟩ := ho.asg.inv
  obtain ⟨⟨x, hx, e⟩, _⟩ := h.spec hm
  have h2 := (h.spec hi).2 x hx
  have h3 := leads_step ho hI hi hm hx
  rw [ld_leads ho hI hm hx] at e
  rw [ld_leads ho hI hi hx] at h2
  omega
theorem CalmG.calm {b : List Int} {γ : Nat → Int} (ho : Opt M.length (matM M) (asgOf b)) (h : CalmG M b γ) : Calm M.length (matM M) (asgOf b) γ := fun i m hi hm => by
  obtain ⟨o, hI⟩ := ho.asg.inv
  rw [h i hi, h m hm]
  have key : ∀ x, x < M.length → lowTo (ldOf M b) M.length m + matM M i (asgOf b m) - matM M m (asgOf b m) ≤ -(ldOf M b x i) := fun x hx => by
    have h1 := (lowTo_le (F := ldOf M b) (k := m) M.length).2 x hx
    have h3 := leads_step' ho hI hi hm hx
    rw [ld_leads ho hI hx hm] at h1
    rw [ld_leads ho hI hx hi]
    omega
  rcases lowTo_has (F := ldOf M b) (k := i) M.length with e | ⟨x, hx, e⟩
  · rw [e]
    have := key i hi
    rw [ld_leads ho hI hi hi, leads_self ho hI hi] at this
    omega
  · rw [e]; exact key x hx

theorem FairG.shift (h : Shift M.length (matM M) (matM H) c d f g) (hl : H.length = M.length) {m : Int} (hc : ∀ i, i < M.length → c i = m) {b b2 : List Int} (ho : Opt M.length (matM M) (asgOf b)) (hb : Opt H.length (matM H) (asgOf b2)) {γ γ2 : Nat → Int} (hg : FairG M b γ) (hg2 : FairG H b2 γ2) : ∀ i, i < M.length → γ2 (f i) = γ i := fun i hi => by
  have hfi := h.ag.lt i hi
  obtain ⟨⟨x, hx, e⟩, h2⟩ := hg.spec hi
  obtain ⟨⟨y, hy, e2⟩, h4⟩ := hg2.spec (i := f i) (by rw [hl]; exact hfi)
  rw [hl] at hy h4
  obtain ⟨z, hz, rfl⟩ := h.ag.onto y hy
  have k1 := law_ld h hl ho hb hi hz
  have k2 := law_ld h hl ho hb hi hx
  rw [hc i hi, hc z hz] at k1
  rw [hc i hi, hc x hx] at k2
  have k3 := h2 z hz
  have k4 := h4 (f x) (h.ag.lt x hx)
  omega
theorem CalmG.shift (h : Shift M.length (matM M) (matM H) c d f g) (hl : H.length = M.length) {m : Int} (hc : ∀ i, i < M.length → c i = m) {b b2 : List Int} (ho : Opt M.length (matM M) (asgOf b)) (hb : Opt H.length (matM H) (asgOf b2)) {γ γ2 : Nat → Int} (hg : CalmG M b γ) (hg2 : CalmG H b2 γ2) : ∀ i, i < M.length → γ2 (f i) = γ i := fun i hi => by
  have hfi := h.ag.lt i hi
  rw [hg i hi, hg2 (f i) (by rw [hl]; exact hfi), hl]
  have hld : ∀ x, x < M.length → ldOf H b2 (f x) (f i) = ldOf M b x i := fun x hx => by
    rw [law_ld h hl ho hb hx hi, hc i hi, hc x hx]; omega
  have l1 := lowTo_le (F := ldOf M b) (k := i) M.length
  have l2 := lowTo_le (F := ldOf H b2) (k := f i) M.length
  refine Int.le_antisymm ?_ ?_
  · rcases lowTo_has (F := ldOf M b) (k := i) M.length with e | ⟨x, hx, e⟩
    · rw [e]; exact l2.1
    · rw [e, ← hld x hx]; exact l2.2 _ (h.ag.lt x hx)
  · rcases lowTo_has (F := ldOf H b2) (k := f i) M.length with e | ⟨x, hx, e⟩
    · rw [e]; exact l1.1
    · obtain ⟨y, hy, rfl⟩ := h.ag.onto x hx
      rw [e, hld y hy]; exact l1.2 y hy

/-! ### Leases -/

theorem Priced.bd7 {n : Nat} {V : Nat → Nat → Int} {rent : Int} {a : Nat → Nat} {γ P : Nat → Int} (h : Priced n V rent a γ P) (ha : Asg n a) (hc : Calm n V a γ) (hV : ∀ i j, i < n → j < n → 0 ≤ V i j ∧ V i j ≤ 1000000) (hr : 0 ≤ rent ∧ rent ≤ 10000000) (hn : 1 ≤ n) : ∀ j, j < n → -10000000 * (n : Int) ≤ P j ∧ P j ≤ 10000000 * (n : Int) := fun j hj => by
  obtain ⟨i, hi, rfl⟩ := ha.onto j hj
  have hx : ∀ k, k < n → -1000000 ≤ (V i (a i) - γ i) - (V k (a k) - γ k) ∧ (V i (a i) - γ i) - (V k (a k) - γ k) ≤ 1000000 := fun k hk => by
    have h1 := hc i k hi hk
    have h2 := hc k i hk hi
    have h3 := hV i (a i) hi (ha.lt i hi)
    have h4 := hV i (a k) hi (ha.lt k hk)
    have h5 := hV k (a i) hk (ha.lt i hi)
    have h6 := hV k (a k) hk (ha.lt k hk)
    omega
  have hs : P (a i) = Sm n (fun k => (V i (a i) - γ i) - (V k (a k) - γ k)) + rent := by
    rw [h.eq i hi, Sm.sub, Sm.const]
    unfold restOf
    omega
  rw [hs]
  by_cases h1 : n = 1
  · subst h1
    have : i = 0 := by omega
    subst this
    simp only [Sm]
    omega
  · have hb := Sm.bdg (n := n) (B := 1000000) hx
    omega

theorem Leased.ok (hB : Bids M) {rent : Int} (hr : 0 ≤ rent ∧ rent ≤ 10000000) {b pl : List Int} {e : Nat} {γ : Nat → Int} (h : Leased M rent b pl e γ) (hc : Calm M.length (matM M) (asgOf b) γ) : LeaseOk M rent b pl (M.length / e) := by
  obtain ⟨P, hP, hR, hpl⟩ := h.ex
  have he1 := hR.cut.1
  obtain ⟨q, hq⟩ := hR.cut.2.1
  have hqd : M.length / e = q := by rw [hq]; exact Nat.mul_div_cancel_left _ he1
  have hn1 := hB.pos
  have hn6 := hB.most
  have hq1 : 1 ≤ q := by
    rcases Nat.eq_zero_or_pos q with h0 | h0
    · rw [h0] at hq; omega
    · exact h0
  have hqn : q ≤ M.length := by rw [hq]; exact Nat.le_mul_of_pos_left _ he1
  have hmul : ∀ j, j < M.length → pl.getD j 0 * (e : Int) = P j := fun j hj => by
    rw [hpl j hj]; exact Int.ediv_mul_cancel (hR.cut.2.2 j hj)
  have hne : (M.length : Int) = (e : Int) * (q : Int) := by rw [← Int.natCast_mul, ← hq]
  rw [hqd]
  refine ⟨h.asg, h.len, ⟨hq1, by omega⟩, fun j hj => ?_, ?_⟩
  · have hb := hP.bd7 h.asg.asg hc (fun i j hi hj => hB.range i j hi hj) hr hn1 j hj
    rw [← hmul j hj, hne] at hb
    have hpos : (0 : Int) < (e : Int) := by omega
    constructor
    · refine Int.le_of_mul_le_mul_right ?_ hpos
      rw [Int.mul_assoc, Int.mul_comm (q : Int)]; exact hb.1
    · refine Int.le_of_mul_le_mul_right ?_ hpos
      rw [Int.mul_assoc, Int.mul_comm (q : Int)]; exact hb.2
  · have hs := priced_sum h.asg.asg hP
    rw [← Sm.congr hmul, Sm.mulr, hne] at hs
    refine Int.eq_of_mul_eq_mul_right (show (e : Int) ≠ 0 by omega) ?_
    rw [hs, Int.mul_assoc, Int.mul_comm (q : Int)]

theorem Leased.shift (h : Shift M.length (matM M) (matM H) c d f g) (hl : H.length = M.length) {m : Int} (hc : ∀ i, i < M.length → c i = m) {rent : Int} {b pl b2 pl2 : List Int} {e e2 : Nat} {γ γ2 : Nat → Int} (h1 : Leased M rent b pl e γ) (h2 : Leased H (rent + Sm M.length d) b2 pl2 e2 γ2) (hcalm : Calm M.length (matM M) (asgOf b) γ) (hγ : ∀ i, i < M.length → γ2 (f i) = γ i) :
    e2 = e ∧ (∀ i, i < M.length → pl2.getD (g i) 0 = pl.getD i 0 + d i * ((M.length / e : Nat) : Int)) ∧ ∀ i, i < M.length → matM H (f i) (asgOf b2 (f i)) * ((M.length / e : Nat) : Int) - pl2.getD (asgOf b2 (f i)) 0 = (matM M i (asgOf b i) * ((M.length / e : Nat) : Int) - pl.getD (asgOf b i) 0) + m * ((M.length / e : Nat) : Int) := by
  obtain ⟨P, hP, hR, hpl⟩ := h1.ex
  obtain ⟨Q, hQ, hS, hpl2⟩ := h2.ex
  have ho := h1.opt
  have hb := h2.opt
  rw [hl] at hQ hS hpl2 hb
  have hPQ := priced_shift h hc rfl ho hb hcalm hγ hP hQ
  have hcut : ∀ k, Cut M.length Q k ↔ Cut M.length P k := fun k => by
    constructor
    · rintro ⟨k1, k2⟩
      refine ⟨k1, fun j hj => ?_⟩
      have := k2 (g j) (h.it.lt j hj)
      rw [hPQ j hj] at this
      exact (Int.dvd_add_left (Int.dvd_mul_of_dvd_left (Int.natCast_dvd_natCast.2 k1))).1 this
    · rintro ⟨k1, k2⟩
      refine ⟨k1, fun j hj => ?_⟩
      obtain ⟨x, hx, rfl⟩ := h.it.onto j hj
      rw [hPQ x hx]
      exact Int.dvd_add (k2 x hx) (Int.dvd_mul_of_dvd_left (Int.natCast_dvd_natCast.2 k1))
  have hee : e2 = e := by
    have k1 := hR.most e2 hS.le ((hcut e2).1 hS.cut.2)
    have k2 := hS.most e hR.le ((hcut e).2 hR.cut.2)
    omega
  subst hee
  have he1 := hR.cut.1
  obtain ⟨q, hq⟩ := hR.cut.2.1
  have hqd : M.length / e2 = q := by rw [hq]; exact Nat.mul_div_cancel_left _ he1
  have hne : (M.length : Int) = (e2 : Int) * (q : Int) := by rw [← Int.natCast_mul, ← hq]
  have hmul : ∀ j, j < M.length → pl.getD j 0 * (e2 : Int) = P j := fun j hj => by
    rw [hpl j hj]; exact Int.ediv_mul_cancel (hR.cut.2.2 j hj)
  have hmul2 : ∀ j, j < M.length → pl2.getD j 0 * (e2 : Int) = Q j := fun j hj => by
    rw [hpl2 j hj]; exact Int.ediv_mul_cancel (hS.cut.2.2 j hj)
  have he0 : (e2 : Int) ≠ 0 := by omega
  rw [hqd]
  have hprice : ∀ i, i < M.length → pl2.getD (g i) 0 = pl.getD i 0 + d i * (q : Int) := fun i hi => by
    refine Int.eq_of_mul_eq_mul_right he0 ?_
    rw [hmul2 _ (h.it.lt i hi), hPQ i hi, Int.add_mul, hmul i hi, hne, Int.mul_assoc, Int.mul_comm (q : Int), Int.mul_comm (d i), Int.mul_assoc]
    congr 1
    rw [Int.mul_comm (e2 : Int), Int.mul_assoc]
  refine ⟨rfl, hprice, fun i hi => ?_⟩
  obtain ⟨a2, ha2, hc2⟩ := carry_back h hb.asg
  have ho2 := opt_back h hb ha2 hc2
  have hp : ∃ p : Nat → Int, ∀ i, i < M.length → p (asgOf b i) = matM M i (asgOf b i) - γ i := by
    obtain ⟨o, hI⟩ := ho.asg.inv
    exact ⟨fun j => matM M (o j) j - γ (o j), fun i hi => by dsimp only; rw [hI.back ho.asg i hi]⟩
  obtain ⟨p, hp⟩ := hp
  have hall := (fea_all ho ho2 (calm_fea ho hcalm hp)).2 i hi
  have hPp : ∀ j, j < M.length → P j = (M.length : Int) * p j - restOf M.length (matM M) rent (asgOf b) γ := fun j hj => by
    obtain ⟨x, hx, rfl⟩ := ho.asg.onto j hj
    rw [hP.eq x hx, hp x hx]
  rw [hc2 i hi, hprice _ (ha2.lt i hi), h.eq i _ hi (ha2.lt i hi), hc i hi]
  have e3 : matM M i (a2 i) * (q : Int) - pl.getD (a2 i) 0 = matM M i (asgOf b i) * (q : Int) - pl.getD (asgOf b i) 0 := by
    refine Int.eq_of_mul_eq_mul_right he0 ?_
    rw [Int.sub_mul, Int.sub_mul, hmul _ (ha2.lt i hi), hmul _ (ho.asg.lt i hi), hPp _ (ha2.lt i hi), hPp _ (ho.asg.lt i hi), Int.mul_assoc, Int.mul_assoc, Int.mul_comm (q : Int), ← hne]
    have k1 : matM M i (a2 i) = matM M i (asgOf b i) - p (asgOf b i) + p (a2 i) := by omega
    rw [k1, Int.add_mul, Int.sub_mul, Int.mul_comm (p (asgOf b i)), Int.mul_comm (p (a2 i))]
    omega
  rw [Int.add_mul, Int.add_mul]
  omega
end
end Go.Proofs.Ytfgnjndicidpkaa
