/- The greatest number of a list; the lease of given gains. -/
import Derived.Test.YtfgnjndicidpkaaSL
import Derived.Test.YtfgnjndicidpkaaR5
namespace Go.Proofs.Ytfgnjndicidpkaa
open Go.Abs
variable {K : Known}

/-- The greatest of the first numbers of a list. -/
structure MaxTo (l : List Int) (k : Nat) (m : Int) : Prop where
  has : ∃ i, i < k ∧ l.getD i 0 = m
  all : ∀ i, i < k → l.getD i 0 ≤ m
theorem MaxTo.one {l : List Int} : MaxTo l 1 (l.getD 0 0) := ⟨⟨0, by omega, rfl⟩, fun i hi => by
  obtain rfl : i = 0 := by omega
  exact Int.le_refl _⟩
theorem MaxTo.step {l : List Int} {k : Nat} {m : Int} (h : MaxTo l k m) : MaxTo l (k + 1) (if l.getD k 0 > m then l.getD k 0 else m) := by
  obtain ⟨⟨j, hj, e⟩, h2⟩ := h
  by_cases hc : l.getD k 0 > m
  · rw [if_pos hc]
    exact ⟨⟨k, by omega, rfl⟩, fun i hi => by
      by_cases e : i = k
      · rw [e]; exact Int.le_refl _
      · have := h2 i (by omega); omega⟩
  · rw [if_neg hc]
    exact ⟨⟨j, by omega, e⟩, fun i hi => by
      by_cases e : i = k
      · rw [e]; omega
      · exact h2 i (by omega)⟩
set_option maxRecDepth 100000 in
theorem c35 (hK : Late K) {v : Value} {l : List Int} {s : St} (hv : IRow s v l) (hl : 1 ≤ l.length ∧ l.length ≤ 1000) :
    Ev Try.prog K (.func (.func 35) #[] #[]) [v] s fun r s' => ∃ m, r = .int .i64 m ∧ MaxTo l l.length m ∧ s' = s := by
  refine Ev.enterK (hK.none (by decide) _) Try.func35 rfl rfl (Nat.le_of_ble_eq_true rfl) ?_
  refine Wc.tail ?_
  refine Wc.assoc ?_
  refine Wc.region ?_
  refine Wk.q rfl rfl rfl (Qk.assign rfl) ?_
  refine Wk.next ?_
  refine Wc.assoc ?_
  refine Wc.assoc ?_
  refine Wc.region ?_
  refine Wk.q rfl rfl rfl (Qk.move rfl) ?_
  refine Wk.q rfl rfl rfl (Qk.lenR rfl rfl rfl hv sl29) ?_
  refine Wk.b rfl rfl rfl (Qk.bin rfl rfl rfl) fun b h7 => ?_
  obtain rfl : b = false := by rw [← h7, decide_eq_false_iff_not]; omega -- t7
  refine Wk.next ?_
  refine Wc.condF rfl ?_
  refine Wc.skip ?_
  refine Wc.assoc ?_
  refine Wc.region ?_
  refine Wk.q rfl rfl rfl (Qk.move rfl) ?_
  refine Wk.q rfl rfl rfl (Qk.at rfl rfl ar29 sl29 hv (by constructor <;> omega)) ?_
  refine Wk.r rfl rfl rfl (Rk.intR rfl sh3 hv (i := 0) (by omega)) ?_
  refine Wk.q rfl rfl rfl (Qk.assign rfl) ?_
  refine Wk.next ?_
  refine Wc.assoc ?_
  refine Wc.assoc ?_
  refine Wc.region ?_
  refine Wk.q rfl rfl rfl (Qk.assign rfl) ?_
  refine Wk.next ?_
  refine Wc.block ?_
  refine Wc.loop (σ := Nat × Int) (fun y => 1 ≤ y.1 ∧ y.1 ≤ l.length ∧ MaxTo l y.1 y.2) (fun y => [(0, v), (3, .int .i64 y.2), (4, .int .i64 y.1)]) (fun _ => s) (fun y => l.length - y.1) (1, l.getD 0 0) ⟨Nat.le_refl _, hl.1, MaxTo.one⟩ ⟨rfl, rfl, rfl, trivial⟩ rfl ?_
  rintro ⟨i, m⟩ ⟨hi1, hi, hmx⟩
  dsimp only at hi1 hi hmx ⊢
  refine Wc.assoc ?_
  refine Wc.assoc ?_
  refine Wc.region ?_
  refine Wk.q rfl rfl rfl (Qk.move rfl) ?_
  refine Wk.q rfl rfl rfl (Qk.move rfl) ?_
  refine Wk.q rfl rfl rfl (Qk.lenR rfl rfl rfl hv sl29) ?_
  refine Wk.b rfl rfl rfl (Qk.bin rfl rfl rfl) fun b h15 => ?_
  cases b
  · -- t15 = False
    have hge : i = l.length := by
      have : ¬ ((i : Int) < (l.length : Int)) := of_decide_eq_false h15
      omega
    subst hge
    refine Wk.next ?_
    refine Wc.condF rfl ?_
    refine Wc.jump (fun _ _ => rfl) ?_
    refine Wc.assoc ?_
    refine Wc.region ?_
    refine Wk.q rfl rfl rfl (Qk.move rfl) ?_
    refine Wk.q rfl rfl rfl (Qk.assign rfl) ?_
    refine Wk.next ?_
    refine Wc.done'' (fun _ _ => rfl) rfl ?_
    exact ⟨m, rfl, hmx, rfl⟩
  · -- t15 = True
    have hlt : i < l.length := by
      have : (i : Int) < (l.length : Int) := of_decide_eq_true h15
      omega
    refine Wk.next ?_
    refine Wc.condT rfl ?_
    refine Wc.skip ?_
    refine Wc.assoc ?_
    refine Wc.block ?_
    refine Wc.region ?_
    refine Wk.q rfl rfl rfl (Qk.move rfl) ?_
    refine Wk.q rfl rfl rfl (Qk.move rfl) ?_
    refine Wk.q rfl rfl rfl (Qk.move rfl) ?_
    refine Wk.q rfl rfl rfl (Qk.at rfl rfl ar29 sl29 hv (by constructor <;> omega)) ?_
    refine Wk.r rfl rfl rfl (Rk.intR rfl sh3 hv (i := i) (by omega)) ?_
    refine Wk.q rfl rfl rfl (Qk.max2 rfl rfl rfl) ?_
    refine Wk.q rfl rfl rfl (Qk.assign rfl) ?_
    refine Wk.next ?_
    refine Wc.thence (fun _ _ => rfl) ?_
    refine Wc.region ?_
    refine Wk.q rfl rfl rfl (Qk.move rfl) ?_
    refine Wk.q rfl rfl rfl (Qk.add rfl rfl (by omega)) ?_
    refine Wk.q rfl rfl rfl (Qk.assign rfl) ?_
    refine Wk.next ?_
    refine Wc.finish fun fr hf => ?_
    refine ⟨(i + 1, if l.getD i 0 > m then l.getD i 0 else m), ⟨by dsimp only; omega, hlt, ?_⟩, by dsimp only; omega, rfl, hf.less ⟨rfl, rfl, rfl, trivial⟩⟩
    exact hmx.step
set_option maxRecDepth 100000 in
theorem c58 {d x : Int} {pb : Nat} {s : St} (hd : 1 ≤ d ∧ d ≤ 1000) (hg : s.get pb = some ⟨[.int .i64 d], .rw⟩) :
    Ev Try.prog K (.func (.func 58) #[] #[.pointer (some ⟨pb, 0, none⟩)]) [.int .i64 x] s fun r s' => r = .bool (decide (x.tmod d ≠ 0)) ∧ s' = s := by
  refine Ev.enterK (Known.cl (by simp)) Try.func58 rfl rfl (Nat.le_of_ble_eq_true rfl) ?_
  refine Wc.tail ?_
  refine Wc.assoc ?_
  refine Wc.region ?_
  refine Wk.q rfl rfl rfl (Qk.assign rfl) ?_
  refine Wk.next ?_
  refine Wc.assoc ?_
  refine Wc.region ?_
  refine Wk.q rfl rfl rfl (Qk.move rfl) ?_
  refine Wk.r rfl rfl rfl (Rk.cell rfl sh3 (by first | assumption | repeat (first | exact gnew | exact gsetn gnew | assumption | exact gsetn (by assumption) | refine gpush ?_ | refine gset ?_ (by first | omega | (simp; omega)) )) (by simp) rfl) ?_
  refine Wk.q rfl rfl rfl (Qk.remI rfl rfl (by omega)) ?_
  refine Wk.q rfl rfl rfl (Qk.bin rfl rfl rfl) ?_
  refine Wk.q rfl rfl rfl (Qk.assign rfl) ?_
  refine Wk.next ?_
  refine Wc.done'' (fun _ _ => rfl) rfl ?_
  refine ⟨?_, rfl⟩
  simp only [pack]
  congr 1
  by_cases h : x.tmod d = 0
  · simp [h]
  · simp [h]
theorem build46 {a a2 : Option Addr} {n c n2 c2 : Nat} {x : Int} : abuild Try.prog 46 [(0, .slice a n c), (1, .slice a2 n2 c2), (2, .int .i64 x)] = some (.agg #[.slice a n c, .slice a2 n2 c2, .int .i64 x]) := by
  simp [abuild, fo46, ze46, afill, placeOf, fd46_0, fd46_1, fd46_2, Value.cells, isVal, splice]
theorem Sm.bdg {n : Nat} {g : Nat → Int} {B : Int} (h : ∀ i, i < n → -B ≤ g i ∧ g i ≤ B) : -((n : Int) * B) ≤ Sm n g ∧ Sm n g ≤ n * B := by
  induction n with
  | zero => simp [Sm]
  | succ n ih =>
    have h1 := ih fun i hi => h i (by omega)
    have h2 := h n (by omega)
    simp only [Sm]
    rw [Int.natCast_succ, Int.add_mul, Int.one_mul]
    omega
theorem mul6 {n : Nat} {x : Int} (hn : n ≤ 6) (hx : -300000000 ≤ x ∧ x ≤ 300000000) : -2000000000 ≤ (n : Int) * x ∧ (n : Int) * x ≤ 2000000000 := by
  have : n = 0 ∨ n = 1 ∨ n = 2 ∨ n = 3 ∨ n = 4 ∨ n = 5 ∨ n = 6 := by omega
  rcases this with rfl | rfl | rfl | rfl | rfl | rfl | rfl <;> omega
/-- By d the prices can be shortened. -/
def Cut (n : Nat) (P : Nat → Int) (d : Nat) : Prop := d ∣ n ∧ ∀ j, j < n → (d : Int) ∣ P j
/-- The greatest number by which the prices can be shortened. -/
structure Red (n : Nat) (P : Nat → Int) (d : Nat) : Prop where
  cut : 1 ≤ d ∧ Cut n P d
  le : d ≤ n
  most : ∀ d', d' ≤ n → Cut n P d' → d' ≤ d
theorem Priced.bd {n : Nat} {V : Nat → Nat → Int} {rent : Int} {a : Nat → Nat} {γ P : Nat → Int} (h : Priced n V rent a γ P) (ha : Asg n a) (hg : ∀ i, i < n → -300000000 ≤ V i (a i) - γ i ∧ V i (a i) - γ i ≤ 300000000) (hr : 0 ≤ rent ∧ rent ≤ 10000000) (hn : n ≤ 6) : ∀ j, j < n → -10000000000 ≤ P j ∧ P j ≤ 10000000000 := fun j hj => by
  obtain ⟨i, hi, rfl⟩ := ha.onto j hj
  rw [h.eq i hi]
  have h1 := mul6 hn (hg i hi)
  have h2 := Sm.bdg (n := n) (g := fun i => V i (a i) - γ i) hg
  unfold restOf
  omega
/-- What an agent pays ahead of the rent. -/
def gOf (M : List (List Int)) (b Γ : List Int) (i : Nat) : Int := matM M i (asgOf b i) - Γ.getD i 0
set_option maxHeartbeats 4000000 in
set_option maxRecDepth 100000 in
theorem c36 (hK : Late K) {M : List (List Int)} {v bv gv : Value} {b Γ : List Int} {rent : Int} {s : St} (hm : MRow s v M) (hB : Bids M) (hr : 0 ≤ rent ∧ rent ≤ 10000000) (hb0 : IRow s bv b) (hgv0 : IRow s gv Γ) (hA : AsgL M.length b) (hΓ : Γ.length = M.length) (hγ : ∀ i, i < M.length → -200000000 ≤ Γ.getD i 0 ∧ Γ.getD i 0 ≤ 200000000) :
    Ev Try.prog K (.func (.func 36) #[] #[]) [.agg #[v, .int .i64 rent], bv, gv] s fun r s' => ∃ pv pl d P, r = .agg #[bv, pv, .int .i64 ((M.length : Int) / (d : Nat))] ∧ (∃ pb, s.size ≤ pb ∧ OwnAt s' pv 1 pl.length pb (ic pl)) ∧ pl.length = M.length ∧ Priced M.length (matM M) rent (asgOf b) (fun i => Γ.getD i 0) P ∧ Red M.length P d ∧ (∀ j, j < M.length → pl.getD j 0 = P j / d) ∧ Old s s' := by
  have hm0 := hm
  obtain ⟨rv, hR, hrow⟩ := hm0
  have hR0 := hR
  obtain ⟨av, capv, rfl, _⟩ := hR0
  have hbx := hb0
  obtain ⟨ab, capb, rfl, _⟩ := hbx
  have hgx := hgv0
  obtain ⟨ag, capg, rfl, _⟩ := hgx
  have hb := hb0
  have hgv := hgv0
  have hll := hA.len
  have hm6 := hB.most
  have hpos := hB.pos
  have hlt0 : ∀ x, x < M.length → asgOf b x < M.length := fun x hx => hA.asg.lt x hx
  have hnn : ∀ x, x < M.length → b.getD x 0 = (asgOf b x : Nat) := fun x hx => by have := hA.nonneg x hx; unfold asgOf; omega
  have hgb : ∀ i, i < M.length → -300000000 ≤ gOf M b Γ i ∧ gOf M b Γ i ≤ 300000000 := fun i hi => by
    have h1 := hB.range i (asgOf b i) hi (hlt0 i hi)
    have h2 := hγ i hi
    unfold gOf
    omega
  refine Ev.enterK (hK.none (by decide) _) Try.func36 rfl rfl (Nat.le_of_ble_eq_true rfl) ?_
  refine Wc.tail ?_
  refine Wc.assoc ?_
  refine Wc.region ?_
  refine Wk.f rfl rfl rfl (Fk.box rfl rfl) ?_
  refine Wk.f rfl rfl rfl (Fk.alloc ze46) ?_
  refine Wk.next ?_
  refine Wc.store fun s1 e1 => ?_
  have ho1 : Old s s1 := by subst e1; exact (Old.push _ _).gpush _
  have hz1 : s1.size = s.size + 2 := by subst e1; simp
  have hg1 : s1.get s.size = some ⟨[.slice av M.length capv, .int .i64 rent], .rw⟩ := by subst e1; exact gpush gnew
  have hgo1 : s1.get (s.size + 1) = some ⟨[.slice none 0 0, .slice none 0 0, .int .i64 0], .rw⟩ := by subst e1; exact g1
  have hb := hb.old ho1
  have hgv := hgv.old ho1
  have hpz : ∀ a : Blk, (s.push a).size = s.size + 1 := fun a => by simp
  rw [hpz]
  refine Wc.assoc ?_
  refine Wc.region ?_
  refine Wk.q rfl rfl rfl (Qk.move rfl) ?_
  refine Wk.q rfl rfl rfl (Qk.lenR rfl rfl rfl hb sl29) ?_
  refine Wk.q rfl rfl rfl (Qk.assign rfl) ?_
  refine Wk.next ?_
  refine Wc.assoc ?_
  refine Wc.region ?_
  refine Wk.q rfl rfl rfl (Qk.fa rfl fd24_1) ?_
  refine Wk.r rfl rfl rfl (Rk.cell rfl sh3 (by first | assumption | repeat (first | exact gnew | exact gsetn gnew | assumption | exact gsetn (by assumption) | refine gpush ?_ | refine gset ?_ (by first | omega | (simp; omega)) )) (by simp) rfl) ?_
  refine Wk.q rfl rfl rfl (Qk.neg rfl (by omega)) ?_
  refine Wk.q rfl rfl rfl (Qk.assign rfl) ?_
  refine Wk.next ?_
  refine Wc.assoc ?_
  refine Wc.assoc ?_
  refine Wc.region ?_
  refine Wk.q rfl rfl rfl (Qk.move rfl) ?_
  refine Wk.q rfl rfl rfl (Qk.lenR rfl rfl rfl hb sl29) ?_
  refine Wk.q rfl rfl rfl (Qk.move rfl) ?_
  refine Wk.next ?_
  refine Wc.block ?_
  refine Wc.loop (σ := Nat) (fun i => i ≤ M.length) (fun i => [(1, .slice ab b.length capb), (2, .slice ag Γ.length capg), (3, .pointer (some ⟨s.size, 0, none⟩)), (6, .pointer (some ⟨s.size + 1, 0, none⟩)), (7, goInt b.length), (8, .int .i64 (-rent + Sm i (gOf M b Γ))), (21, .slice ab b.length capb), (22, goInt b.length), (23, .int .i64 i)]) (fun _ => s1) (fun i => M.length - i) 0 (Nat.zero_le _)
    ⟨rfl, rfl, rfl, rfl, rfl, by simp only [Sm, Int.add_zero]; rfl, rfl, rfl, rfl, trivial⟩ rfl ?_
  rintro i hi
  have hsb := Sm.bdg (n := i) (g := (gOf M b Γ)) fun x hx => hgb x (by omega)
  refine Wc.assoc ?_
  refine Wc.region ?_
  refine Wk.b rfl rfl rfl (Qk.bin rfl rfl rfl) fun b h24 => ?_
  cases b
  · -- t24 = False
    have hge : i = M.length := by
      have : ¬ ((i : Int) < (b.length : Int)) := of_decide_eq_false h24
      omega
    subst hge
    refine Wk.next ?_
    refine Wc.assoc ?_
    refine Wc.condF rfl ?_
    refine Wc.jump (fun _ _ => rfl) ?_
    refine Wc.assoc ?_
    refine Wc.region ?_
    refine Wk.q rfl rfl rfl (Qk.move rfl) ?_
    refine Wk.q rfl rfl rfl (Qk.move rfl) ?_
    refine Wk.f rfl rfl rfl (Fk.ints rfl rfl sl29 ze3 (by omega)) ?_
    refine Wk.q rfl rfl rfl (Qk.move rfl) ?_
    refine Wk.q rfl rfl rfl (Qk.build rfl build46) ?_
    refine Wk.f rfl rfl rfl (Fk.alloc ze46) ?_
    refine Wk.h rfl rfl rfl (Hk.whole rfl rfl sh46 (by first | assumption | repeat (first | exact gnew | exact gsetn gnew | assumption | exact gsetn (by assumption) | refine gpush ?_ | refine gset ?_ (by first | omega | (simp; omega)) )) rfl rfl (by first | rfl | (show (true && (Abs.scalar _ && true)) = true; rw [Bool.true_and, Bool.and_true]; assumption))) ?_
    refine Wk.next ?_
    refine Wc.store fun s2 e2 => ?_
    have hz3 : ∀ a : Blk, (s1.push a).size = s.size + 3 := fun a => by simp [hz1]
    have ho2 : Old s s2 := by subst e2; exact ((ho1.gpush _).gpush _).gset (by simp; omega)
    have hg2 : s2.get s.size = some ⟨[.slice av M.length capv, .int .i64 rent], .rw⟩ := by subst e2; exact gset (gpush (gpush hg1)) (by simp; omega)
    have hgo2 : s2.get (s.size + 1) = some ⟨[.slice none 0 0, .slice none 0 0, .int .i64 0], .rw⟩ := by subst e2; exact gset (gpush (gpush hgo1)) (by simp; omega)
    have hgp2 : s2.get (s.size + 2) = some ⟨ic (List.replicate b.length 0), .rw⟩ := by subst e2; rw [← hz1]; exact gset (gpush gnew) (by simp)
    have hgl2 : s2.get (s.size + 3) = some ⟨[.slice ab b.length capb, .slice (some ⟨s.size + 2, 0, none⟩) b.length b.length, goInt b.length], .rw⟩ := by subst e2; exact (Eq.trans (congrArg _ (hz3 _).symm) (gsetn gnew)).trans (by rw [hz1]; rfl)
    rw [hz3, hz1]
    clear e1 e2
    refine Wc.assoc ?_
    refine Wc.assoc ?_
    refine Wc.region ?_
    refine Wk.q rfl rfl rfl (Qk.move rfl) ?_
    refine Wk.q rfl rfl rfl (Qk.lenR rfl rfl rfl hb sl29) ?_
    refine Wk.q rfl rfl rfl (Qk.move rfl) ?_
    refine Wk.next ?_
    refine Wc.block ?_
    refine Wc.loop (σ := Nat × List Int × St) (fun y => y.1 ≤ M.length ∧ y.2.1.length = b.length ∧ Old s y.2.2 ∧ y.2.2.get s.size = some ⟨[.slice av M.length capv, .int .i64 rent], .rw⟩ ∧ y.2.2.get (s.size + 1) = some ⟨[.slice none 0 0, .slice none 0 0, .int .i64 0], .rw⟩ ∧ y.2.2.get (s.size + 2) = some ⟨ic y.2.1, .rw⟩ ∧ y.2.2.get (s.size + 3) = some ⟨[.slice ab b.length capb, .slice (some ⟨s.size + 2, 0, none⟩) b.length b.length, goInt b.length], .rw⟩ ∧ ∀ k, k < y.1 → y.2.1.getD (asgOf b k) 0 = (b.length : Int) * (gOf M b Γ) k - (-rent + Sm M.length (gOf M b Γ)))
      (fun y => [(1, .slice ab b.length capb), (2, .slice ag Γ.length capg), (3, .pointer (some ⟨s.size, 0, none⟩)), (6, .pointer (some ⟨s.size + 1, 0, none⟩)), (7, goInt b.length), (8, .int .i64 (-rent + Sm M.length (gOf M b Γ))), (11, .pointer (some ⟨s.size + 3, 0, none⟩)), (49, .slice ab b.length capb), (50, goInt b.length), (51, .int .i64 y.1)]) (fun y => y.2.2) (fun y => M.length - y.1) (0, List.replicate b.length 0, s2)
      ⟨Nat.zero_le _, by simp, ho2, hg2, hgo2, hgp2, hgl2, fun k hk => absurd hk (Nat.not_lt_zero _)⟩ ⟨rfl, rfl, rfl, rfl, rfl, rfl, rfl, rfl, rfl, rfl, trivial⟩ rfl ?_
    clear ho2 hg2 hgo2 hgp2 hgl2
    rintro ⟨i, pl, sa⟩ ⟨hi, hpl, hoa, hg2, hgo2, hgp2, hgl2, hpv⟩
    dsimp only at hi hpl hoa hg2 hgo2 hgp2 hgl2 hpv ⊢
    have hb := hb0.old hoa
    have hgv := hgv0.old hoa
    refine Wc.assoc ?_
    refine Wc.region ?_
    refine Wk.b rfl rfl rfl (Qk.bin rfl rfl rfl) fun b h52 => ?_
    cases b
    · -- t52 = False
      have hge : i = M.length := by
        have : ¬ ((i : Int) < (b.length : Int)) := of_decide_eq_false h52
        omega
      subst hge
      have hPr : Priced M.length (matM M) rent (asgOf b) (fun i => Γ.getD i 0) (fun j => pl.getD j 0) := ⟨fun k hk => by
        have := hpv k hk
        rw [hll] at this
        exact this⟩
      refine Wk.next ?_
      refine Wc.assoc ?_
      refine Wc.condF rfl ?_
      refine Wc.jump (fun _ _ => rfl) ?_
      refine Wc.assoc ?_
      refine Wc.assoc ?_
      refine Wc.region ?_
      refine Wk.q rfl rfl rfl (Qk.move rfl) ?_
      refine Wk.f rfl rfl rfl (Fk.alloc ze3) ?_
      refine Wk.h rfl rfl rfl (Hk.cell rfl rfl sh3 (by first | assumption | repeat (first | exact gnew | exact gsetn gnew | assumption | exact gsetn (by assumption) | refine gpush ?_ | refine gset ?_ (by first | omega | (simp; omega)) )) (by first | exact Nat.le_of_ble_eq_true rfl | (simp; done) | (simp; omega)) (by first | rfl | assumption) (by first | rfl | assumption)) ?_
      refine Wk.next ?_
      refine Wc.store fun s3 e3 => ?_
      have ho3 : Old s s3 := by subst e3; exact (hoa.gpush _).gset (by have := hoa.1; omega)
      have hg3 : s3.get sa.size = some ⟨[goInt b.length], .rw⟩ := by subst e3; exact gsetn gnew
      have hgo3 : s3.get (s.size + 1) = some ⟨[.slice none 0 0, .slice none 0 0, .int .i64 0], .rw⟩ := by subst e3; exact gset (gpush hgo2) (by have := St.get_lt hgo2; omega)
      have hgp3 : s3.get (s.size + 2) = some ⟨ic pl, .rw⟩ := by subst e3; exact gset (gpush hgp2) (by have := St.get_lt hgp2; omega)
      have hgl3 : s3.get (s.size + 3) = some ⟨[.slice ab b.length capb, .slice (some ⟨s.size + 2, 0, none⟩) b.length b.length, goInt b.length], .rw⟩ := by subst e3; exact gset (gpush hgl2) (by have := St.get_lt hgl2; omega)
      have hlt3 := St.get_lt hgl2
      clear e3
      refine Wc.block ?_
      refine Wc.loop (σ := Nat × Nat × St) (fun y => 1 ≤ y.1 ∧ y.1 ≤ M.length ∧ s.size + 4 ≤ y.2.1 ∧ Old s y.2.2 ∧ y.2.2.get y.2.1 = some ⟨[.int .i64 y.1], .rw⟩ ∧ y.2.2.get (s.size + 1) = some ⟨[.slice none 0 0, .slice none 0 0, .int .i64 0], .rw⟩ ∧ y.2.2.get (s.size + 2) = some ⟨ic pl, .rw⟩ ∧ y.2.2.get (s.size + 3) = some ⟨[.slice ab b.length capb, .slice (some ⟨s.size + 2, 0, none⟩) b.length b.length, goInt b.length], .rw⟩ ∧ ∀ d, y.1 < d → d ≤ M.length → ¬ Cut M.length (fun j => pl.getD j 0) d)
        (fun y => [(6, .pointer (some ⟨s.size + 1, 0, none⟩)), (7, goInt b.length), (11, .pointer (some ⟨s.size + 3, 0, none⟩)), (14, .pointer (some ⟨y.2.1, 0, none⟩))]) (fun y => y.2.2) (fun y => y.1) (b.length, sa.size, s3)
        ⟨by dsimp only; omega, by dsimp only; omega, by dsimp only; omega, ho3, hg3, hgo3, hgp3, hgl3, fun d h1 h2 => by dsimp only at h1; omega⟩ ⟨rfl, rfl, rfl, rfl, trivial⟩ rfl ?_
      clear ho3 hg3 hgo3 hgp3 hgl3 hg2 hgo2 hgp2 hgl2 hlt3
      rintro ⟨d, pd, sd⟩ ⟨hd1, hd2, hpd, hod, hgd, hgo, hgp, hgl, hno⟩
      dsimp only at hd1 hd2 hpd hod hgd hgo hgp hgl hno ⊢
      refine Wc.assoc ?_
      refine Wc.assoc ?_
      refine Wc.region ?_
      refine Wk.r rfl rfl rfl (Rk.cell rfl sh3 (by first | assumption | repeat (first | exact gnew | exact gsetn gnew | assumption | exact gsetn (by assumption) | refine gpush ?_ | refine gset ?_ (by first | omega | (simp; omega)) )) (by simp) rfl) ?_
      refine Wk.b rfl rfl rfl (Qk.bin rfl rfl rfl) fun b h80 => ?_
      cases b
      · -- t80 = False
        have hd : d = 1 := by
          have : ¬ ((d : Int) > 1) := of_decide_eq_false h80
          omega
        subst hd
        refine Wk.next ?_
        refine Wc.condF rfl ?_
        refine Wc.jump (fun _ _ => rfl) ?_
        refine Wc.assoc ?_
        refine Wc.region ?_
        refine Wk.r rfl rfl rfl (Rk.cells rfl sh46 (by first | assumption | repeat (first | exact gnew | exact gsetn gnew | assumption | exact gsetn (by assumption) | refine gpush ?_ | refine gset ?_ (by first | omega | (simp; omega)) )) (by simp) (by simp)) ?_
        refine Wk.h rfl rfl rfl (Hk.whole rfl rfl sh46 (by first | assumption | repeat (first | exact gnew | exact gsetn gnew | assumption | exact gsetn (by assumption) | refine gpush ?_ | refine gset ?_ (by first | omega | (simp; omega)) )) rfl rfl (by first | rfl | (show (true && (Abs.scalar _ && true)) = true; rw [Bool.true_and, Bool.and_true]; assumption))) ?_
        refine Wk.next ?_
        refine Wc.store fun s4 e4 => ?_
        have hlt := St.get_lt hgl
        have ho4 : Old s s4 := by subst e4; exact hod.gset (by omega)
        have hgo4 : s4.get (s.size + 1) = some ⟨[.slice ab b.length capb, .slice (some ⟨s.size + 2, 0, none⟩) b.length b.length, goInt b.length], .rw⟩ := by subst e4; exact gsetn hgo
        have hgp4 : s4.get (s.size + 2) = some ⟨ic pl, .rw⟩ := by subst e4; exact gset hgp (by omega)
        refine Wc.doneC (fun _ _ => rfl) (ares_cell rfl (alW sh46 (by first | assumption | repeat (first | exact gnew | exact gsetn gnew | assumption | exact gsetn (by assumption) | refine gpush ?_ | refine gset ?_ (by first | omega | (simp; omega)) )) (by simp) rfl) ares_nil) ?_
        refine ⟨.slice (some ⟨s.size + 2, 0, none⟩) b.length b.length, pl, 1, fun j => pl.getD j 0, by simp [pack, goInt, hll], ?_, by omega, hPr, ⟨⟨Nat.le_refl _, Nat.one_dvd _, fun j _ => by simp⟩, hd2, fun d h1 h2 => ?_⟩, fun j hj => by simp, ho4⟩
        · exact ⟨s.size + 2, by omega, b.length, .rw, ic pl, by rw [hpl], by rw [hpl]; exact Nat.le_refl _, hgp4, .inl rfl, by rw [ic_len]; omega, by rw [Nat.mul_one, ← ic_len, List.take_length]⟩
        · exact Classical.byContradiction fun e => hno d (by omega) h1 h2
      · -- t80 = True
        have hd1' : 2 ≤ d := by
          have : (d : Int) > 1 := of_decide_eq_true h80
          omega
        have hb0 : IRow sd (.slice (some ⟨s.size + 2, 0, none⟩) b.length b.length) pl := by rw [← hpl]; exact IRow.of_get hgp (by simp) (Nat.le_refl _)
        have htm : ∀ x : Int, (x.tmod d = 0 ↔ (d : Int) ∣ x) := fun x => ⟨Int.dvd_of_tmod_eq_zero, Int.tmod_eq_zero_of_dvd⟩
        refine Wk.next ?_
        refine Wc.condT rfl ?_
        refine Wc.skip ?_
        refine Wc.assoc ?_
        refine Wc.block ?_
        refine Wc.assoc ?_
        refine Wc.region ?_
        refine Wk.q rfl rfl rfl (Qk.move rfl) ?_
        refine Wk.r rfl rfl rfl (Rk.cell rfl sh3 (by first | assumption | repeat (first | exact gnew | exact gsetn gnew | assumption | exact gsetn (by assumption) | refine gpush ?_ | refine gset ?_ (by first | omega | (simp; omega)) )) (by simp) rfl) ?_
        refine Wk.q rfl rfl rfl (Qk.remI rfl rfl (by omega)) ?_
        refine Wk.b rfl rfl rfl (Qk.bin rfl rfl rfl) fun b h86 => ?_
        cases b
        · -- t86 = False
          have hnc : ¬ Cut M.length (fun j => pl.getD j 0) d := fun hc => by
            have h1 : ¬ ((b.length : Int).tmod d = 0) := by simpa using h86
            exact h1 ((htm _).2 (by rw [hll]; exact Int.natCast_dvd_natCast.2 hc.1))
          refine Wk.q rfl rfl rfl (Qk.move rfl) ?_
          refine Wk.no rfl rfl rfl ?_
          refine Wk.no rfl rfl rfl ?_
          refine Wk.no rfl rfl rfl ?_
          refine Wk.no rfl rfl rfl ?_
          refine Wk.no rfl rfl rfl ?_
          refine Wk.q rfl rfl rfl (Qk.pickF rfl rfl) ?_
          refine Wk.next ?_
          refine Wc.condF rfl ?_
          refine Wc.skip ?_
          refine Wc.thence (fun _ _ => rfl) ?_
          refine Wc.assoc ?_
          refine Wc.assoc ?_
          refine Wc.region ?_
          refine Wk.r rfl rfl rfl (Rk.cell rfl sh3 (by first | assumption | repeat (first | exact gnew | exact gsetn gnew | assumption | exact gsetn (by assumption) | refine gpush ?_ | refine gset ?_ (by first | omega | (simp; omega)) )) (by simp) rfl) ?_
          refine Wk.next ?_
          refine Wc.region ?_
          refine Wk.f rfl rfl rfl (Fk.alloc ze3) ?_
          refine Wk.h rfl rfl rfl (Hk.cell rfl rfl sh3 (by first | assumption | repeat (first | exact gnew | exact gsetn gnew | assumption | exact gsetn (by assumption) | refine gpush ?_ | refine gset ?_ (by first | omega | (simp; omega)) )) (by first | exact Nat.le_of_ble_eq_true rfl | (simp; done) | (simp; omega)) (by first | rfl | assumption) (by first | rfl | assumption)) ?_
          refine Wk.next ?_
          refine Wc.store fun s5 e5 => ?_
          have ho5 : Old s s5 := by subst e5; exact (hod.gpush _).gset (by have := hod.1; omega)
          have hlt := St.get_lt hgd
          have hgo5 : s5.get (s.size + 1) = some ⟨[.slice none 0 0, .slice none 0 0, .int .i64 0], .rw⟩ := by subst e5; exact gset (gpush hgo) (by omega)
          have hgp5 : s5.get (s.size + 2) = some ⟨ic pl, .rw⟩ := by subst e5; exact gset (gpush hgp) (by omega)
          have hgl5 : s5.get (s.size + 3) = some ⟨[.slice ab b.length capb, .slice (some ⟨s.size + 2, 0, none⟩) b.length b.length, goInt b.length], .rw⟩ := by subst e5; exact gset (gpush hgl) (by omega)
          have hgd5 : s5.get sd.size = some ⟨[.int .i64 d], .rw⟩ := by subst e5; exact gsetn gnew
          clear e5
          refine Wc.region ?_
          refine Wk.r rfl rfl rfl (Rk.cell rfl sh3 (by first | assumption | repeat (first | exact gnew | exact gsetn gnew | assumption | exact gsetn (by assumption) | refine gpush ?_ | refine gset ?_ (by first | omega | (simp; omega)) )) (by simp) rfl) ?_
          refine Wk.q rfl rfl rfl (Qk.sub rfl rfl (by omega)) ?_
          refine Wk.h rfl rfl rfl (Hk.cell rfl rfl sh3 (by first | assumption | repeat (first | exact gnew | exact gsetn gnew | assumption | exact gsetn (by assumption) | refine gpush ?_ | refine gset ?_ (by first | omega | (simp; omega)) )) (by first | exact Nat.le_of_ble_eq_true rfl | (simp; done) | (simp; omega)) (by first | rfl | assumption) (by first | rfl | assumption)) ?_
          refine Wk.next ?_
          refine Wc.store fun s6 e6 => ?_
          have ho6 : Old s s6 := by subst e6; exact ho5.gset (by have := hod.1; omega)
          have hgo6 : s6.get (s.size + 1) = some ⟨[.slice none 0 0, .slice none 0 0, .int .i64 0], .rw⟩ := by subst e6; exact gset hgo5 (by omega)
          have hgp6 : s6.get (s.size + 2) = some ⟨ic pl, .rw⟩ := by subst e6; exact gset hgp5 (by omega)
          have hgl6 : s6.get (s.size + 3) = some ⟨[.slice ab b.length capb, .slice (some ⟨s.size + 2, 0, none⟩) b.length b.length, goInt b.length], .rw⟩ := by subst e6; exact gset hgl5 (by omega)
          have hgd6 : s6.get sd.size = some ⟨[.int .i64 (d - 1)], .rw⟩ := by subst e6; exact gsetn hgd5
          refine Wc.finish fun fr hf => ?_
          refine ⟨(d - 1, sd.size, s6), ⟨by dsimp only; omega, by dsimp only; omega, by dsimp only; omega, ho6, by dsimp only; rw [hgd6]; congr 4; omega, hgo6, hgp6, hgl6, fun d' h1 h2 => ?_⟩, by dsimp only; omega, rfl, hf.less ⟨rfl, rfl, rfl, rfl, trivial⟩⟩
          dsimp only at h1
          by_cases e : d' = d
          · rw [e]; exact hnc
          · exact hno d' (by omega) h2
        · -- t86 = True
          refine Wk.q rfl rfl rfl (Qk.move rfl) ?_
          refine Wk.q rfl rfl rfl (Qk.fa rfl fd46_1) ?_
          refine Wk.r rfl rfl rfl (Rk.cell rfl sh29 (by first | assumption | repeat (first | exact gnew | exact gsetn gnew | assumption | exact gsetn (by assumption) | refine gpush ?_ | refine gset ?_ (by first | omega | (simp; omega)) )) (by simp) rfl) ?_
          refine Wk.q rfl rfl rfl (Qk.makeFunc rfl rfl) ?_
          refine Wk.c rfl rfl rfl (Ck.call rfl rfl) ((c40 hK hb0 (by omega) (fun x => c58 (d := d) (by omega) hgd)).mono ?_)
          rintro r t ⟨rfl, rfl⟩
          skip
          refine Wk.b rfl rfl rfl (Qk.not rfl) fun b h92 => ?_
          cases b
          · -- t92 = False
            have hnc : ¬ Cut M.length (fun j => pl.getD j 0) d := fun hc => by
              have h1 : pl.any (fun x => decide (x.tmod d ≠ 0)) = true := by simpa using h92
              rw [any_false (p := fun x : Int => decide (x.tmod d ≠ 0)) (d := 0) fun j hj => decide_eq_false (not_not_intro ((htm _).2 (hc.2 j (by omega))))] at h1
              cases h1
            refine Wk.q rfl rfl rfl (Qk.pickT rfl rfl) ?_
            refine Wk.next ?_
            refine Wc.condF rfl ?_
            refine Wc.skip ?_
            refine Wc.thence (fun _ _ => rfl) ?_
            refine Wc.assoc ?_
            refine Wc.assoc ?_
            refine Wc.region ?_
            refine Wk.r rfl rfl rfl (Rk.cell rfl sh3 (by first | assumption | repeat (first | exact gnew | exact gsetn gnew | assumption | exact gsetn (by assumption) | refine gpush ?_ | refine gset ?_ (by first | omega | (simp; omega)) )) (by simp) rfl) ?_
            refine Wk.next ?_
            refine Wc.region ?_
            refine Wk.f rfl rfl rfl (Fk.alloc ze3) ?_
            refine Wk.h rfl rfl rfl (Hk.cell rfl rfl sh3 (by first | assumption | repeat (first | exact gnew | exact gsetn gnew | assumption | exact gsetn (by assumption) | refine gpush ?_ | refine gset ?_ (by first | omega | (simp; omega)) )) (by first | exact Nat.le_of_ble_eq_true rfl | (simp; done) | (simp; omega)) (by first | rfl | assumption) (by first | rfl | assumption)) ?_
            refine Wk.next ?_
            refine Wc.store fun s7 e7 => ?_
            have ho5 : Old s s7 := by subst e7; exact (hod.gpush _).gset (by have := hod.1; omega)
            have hlt := St.get_lt hgd
            have hgo5 : s7.get (s.size + 1) = some ⟨[.slice none 0 0, .slice none 0 0, .int .i64 0], .rw⟩ := by subst e7; exact gset (gpush hgo) (by omega)
            have hgp5 : s7.get (s.size + 2) = some ⟨ic pl, .rw⟩ := by subst e7; exact gset (gpush hgp) (by omega)
            have hgl5 : s7.get (s.size + 3) = some ⟨[.slice ab b.length capb, .slice (some ⟨s.size + 2, 0, none⟩) b.length b.length, goInt b.length], .rw⟩ := by subst e7; exact gset (gpush hgl) (by omega)
            have hgd5 : s7.get t.size = some ⟨[.int .i64 d], .rw⟩ := by subst e7; exact gsetn gnew
            clear e7
            refine Wc.region ?_
            refine Wk.r rfl rfl rfl (Rk.cell rfl sh3 (by first | assumption | repeat (first | exact gnew | exact gsetn gnew | assumption | exact gsetn (by assumption) | refine gpush ?_ | refine gset ?_ (by first | omega | (simp; omega)) )) (by simp) rfl) ?_
            refine Wk.q rfl rfl rfl (Qk.sub rfl rfl (by omega)) ?_
            refine Wk.h rfl rfl rfl (Hk.cell rfl rfl sh3 (by first | assumption | repeat (first | exact gnew | exact gsetn gnew | assumption | exact gsetn (by assumption) | refine gpush ?_ | refine gset ?_ (by first | omega | (simp; omega)) )) (by first | exact Nat.le_of_ble_eq_true rfl | (simp; done) | (simp; omega)) (by first | rfl | assumption) (by first | rfl | assumption)) ?_
            refine Wk.next ?_
            refine Wc.store fun s8 e8 => ?_
            have ho6 : Old s s8 := by subst e8; exact ho5.gset (by have := hod.1; omega)
            have hgo6 : s8.get (s.size + 1) = some ⟨[.slice none 0 0, .slice none 0 0, .int .i64 0], .rw⟩ := by subst e8; exact gset hgo5 (by omega)
            have hgp6 : s8.get (s.size + 2) = some ⟨ic pl, .rw⟩ := by subst e8; exact gset hgp5 (by omega)
            have hgl6 : s8.get (s.size + 3) = some ⟨[.slice ab b.length capb, .slice (some ⟨s.size + 2, 0, none⟩) b.length b.length, goInt b.length], .rw⟩ := by subst e8; exact gset hgl5 (by omega)
            have hgd6 : s8.get t.size = some ⟨[.int .i64 (d - 1)], .rw⟩ := by subst e8; exact gsetn hgd5
            refine Wc.finish fun fr hf => ?_
            refine ⟨(d - 1, t.size, s8), ⟨by dsimp only; omega, by dsimp only; omega, by dsimp only; omega, ho6, by dsimp only; rw [hgd6]; congr 4; omega, hgo6, hgp6, hgl6, fun d' h1 h2 => ?_⟩, by dsimp only; omega, rfl, hf.less ⟨rfl, rfl, rfl, rfl, trivial⟩⟩
            dsimp only at h1
            by_cases e : d' = d
            · rw [e]; exact hnc
            · exact hno d' (by omega) h2
          · -- t92 = True
            have hcut : Cut M.length (fun j => pl.getD j 0) d := by
              have h1 : ((b.length : Int).tmod d = 0) := by simpa using h86
              rw [hll] at h1
              refine ⟨Int.natCast_dvd_natCast.1 ((htm _).1 h1), fun j hj => (htm _).1 ?_⟩
              refine Classical.byContradiction fun hne => ?_
              have h2 : pl.any (fun x => decide (x.tmod d ≠ 0)) = true := any_true (d := 0) (i := j) (by omega) (by simpa using hne)
              rw [h2] at h92
              cases h92
            have hnd : (b.length : Int).tdiv d = (b.length : Int) / d := by rw [Int.tdiv_eq_ediv_of_nonneg (by omega)]
            have hnb : 0 ≤ (b.length : Int) / d ∧ (b.length : Int) / d ≤ b.length := ⟨Int.ediv_nonneg (by omega) (by omega), Int.ediv_le_self _ (by omega)⟩
            refine Wk.q rfl rfl rfl (Qk.pickT rfl rfl) ?_
            refine Wk.next ?_
            refine Wc.condT rfl ?_
            refine Wc.assoc ?_
            refine Wc.region ?_
            refine Wk.q rfl rfl rfl (Qk.move rfl) ?_
            refine Wk.r rfl rfl rfl (Rk.cell rfl sh3 (by first | assumption | repeat (first | exact gnew | exact gsetn gnew | assumption | exact gsetn (by assumption) | refine gpush ?_ | refine gset ?_ (by first | omega | (simp; omega)) )) (by simp) rfl) ?_
            refine Wk.q rfl rfl rfl (Qk.quoI rfl rfl (by omega) (by rw [hnd]; omega)) ?_
            refine Wk.q rfl rfl rfl (Qk.fa rfl fd46_2) ?_
            refine Wk.h rfl rfl rfl (Hk.cell rfl rfl sh3 (by first | assumption | repeat (first | exact gnew | exact gsetn gnew | assumption | exact gsetn (by assumption) | refine gpush ?_ | refine gset ?_ (by first | omega | (simp; omega)) )) (by first | exact Nat.le_of_ble_eq_true rfl | (simp; done) | (simp; omega)) (by first | rfl | assumption) (by first | rfl | assumption)) ?_
            refine Wk.next ?_
            refine Wc.store fun s9 e9 => ?_
            have hlt := St.get_lt hgd
            have ho9 : Old s s9 := by subst e9; exact hod.gset (by omega)
            have hgo9 : s9.get (s.size + 1) = some ⟨[.slice none 0 0, .slice none 0 0, .int .i64 0], .rw⟩ := by subst e9; exact gset hgo (by omega)
            have hgp9 : s9.get (s.size + 2) = some ⟨ic pl, .rw⟩ := by subst e9; exact gset hgp (by omega)
            have hgl9 : s9.get (s.size + 3) = some ⟨[.slice ab b.length capb, .slice (some ⟨s.size + 2, 0, none⟩) b.length b.length, .int .i64 ((b.length : Int).tdiv d)], .rw⟩ := by subst e9; exact gsetn hgl
            have hgd9 : s9.get pd = some ⟨[.int .i64 d], .rw⟩ := by subst e9; exact gset hgd (by omega)
            clear e9
            refine Wc.assoc ?_
            refine Wc.assoc ?_
            refine Wc.region ?_
            refine Wk.q rfl rfl rfl (Qk.fa rfl fd46_1) ?_
            refine Wk.r rfl rfl rfl (Rk.cell rfl sh29 (by first | assumption | repeat (first | exact gnew | exact gsetn gnew | assumption | exact gsetn (by assumption) | refine gpush ?_ | refine gset ?_ (by first | omega | (simp; omega)) )) (by simp) rfl) ?_
            refine Wk.q rfl rfl rfl (Qk.len rfl rfl rfl sl29) ?_
            refine Wk.q rfl rfl rfl (Qk.move rfl) ?_
            refine Wk.next ?_
            refine Wc.block ?_
            refine Wc.loop (σ := Nat × List Int × St) (fun y => y.1 ≤ M.length ∧ y.2.1.length = b.length ∧ Old s y.2.2 ∧ y.2.2.get pd = some ⟨[.int .i64 d], .rw⟩ ∧ y.2.2.get (s.size + 1) = some ⟨[.slice none 0 0, .slice none 0 0, .int .i64 0], .rw⟩ ∧ y.2.2.get (s.size + 2) = some ⟨ic y.2.1, .rw⟩ ∧ y.2.2.get (s.size + 3) = some ⟨[.slice ab b.length capb, .slice (some ⟨s.size + 2, 0, none⟩) b.length b.length, .int .i64 ((b.length : Int).tdiv d)], .rw⟩ ∧ ∀ k, k < M.length → y.2.1.getD k 0 = if k < y.1 then (pl.getD k 0).tdiv d else pl.getD k 0)
              (fun y => [(6, .pointer (some ⟨s.size + 1, 0, none⟩)), (11, .pointer (some ⟨s.size + 3, 0, none⟩)), (14, .pointer (some ⟨pd, 0, none⟩)), (100, goInt b.length), (101, .int .i64 y.1)]) (fun y => y.2.2) (fun y => M.length - y.1) (0, pl, s9)
              ⟨Nat.zero_le _, hpl, ho9, hgd9, hgo9, hgp9, hgl9, fun k hk => by simp⟩ ⟨rfl, rfl, rfl, rfl, rfl, trivial⟩ rfl ?_
            clear ho9 hgd9 hgo9 hgp9 hgl9 hgd hgo hgp hgl
            rintro ⟨j, ql, sq⟩ ⟨hj, hql, hoq, hgd, hgo, hgp, hgl, hqv⟩
            dsimp only at hj hql hoq hgd hgo hgp hgl hqv ⊢
            refine Wc.assoc ?_
            refine Wc.region ?_
            refine Wk.b rfl rfl rfl (Qk.bin rfl rfl rfl) fun b h102 => ?_
            cases b
            · -- t102 = False
              have hge : j = M.length := by
                have : ¬ ((j : Int) < (b.length : Int)) := of_decide_eq_false h102
                omega
              subst hge
              refine Wk.next ?_
              refine Wc.assoc ?_
              refine Wc.condF rfl ?_
              refine Wc.jump (fun _ _ => rfl) ?_
              refine Wc.jump (fun _ _ => rfl) ?_
              refine Wc.assoc ?_
              refine Wc.region ?_
              refine Wk.r rfl rfl rfl (Rk.cells rfl sh46 (by first | assumption | repeat (first | exact gnew | exact gsetn gnew | assumption | exact gsetn (by assumption) | refine gpush ?_ | refine gset ?_ (by first | omega | (simp; omega)) )) (by simp) (by simp)) ?_
              refine Wk.h rfl rfl rfl (Hk.whole rfl rfl sh46 (by first | assumption | repeat (first | exact gnew | exact gsetn gnew | assumption | exact gsetn (by assumption) | refine gpush ?_ | refine gset ?_ (by first | omega | (simp; omega)) )) rfl rfl (by first | rfl | (show (true && (Abs.scalar _ && true)) = true; rw [Bool.true_and, Bool.and_true]; assumption))) ?_
              refine Wk.next ?_
              refine Wc.store fun s10 e10 => ?_
              have ho10 : Old s s10 := by subst e10; exact hoq.gset (by omega)
              have hgo4 : s10.get (s.size + 1) = some ⟨[.slice ab b.length capb, .slice (some ⟨s.size + 2, 0, none⟩) b.length b.length, .int .i64 ((b.length : Int).tdiv d)], .rw⟩ := by subst e10; exact gsetn hgo
              have hgp4 : s10.get (s.size + 2) = some ⟨ic ql, .rw⟩ := by subst e10; exact gset hgp (by omega)
              refine Wc.doneC (fun _ _ => rfl) (ares_cell rfl (alW sh46 (by first | assumption | repeat (first | exact gnew | exact gsetn gnew | assumption | exact gsetn (by assumption) | refine gpush ?_ | refine gset ?_ (by first | omega | (simp; omega)) )) (by simp) rfl) ares_nil) ?_
              refine ⟨.slice (some ⟨s.size + 2, 0, none⟩) b.length b.length, ql, d, fun j => pl.getD j 0, ?_, ?_, by omega, hPr, ⟨⟨by omega, hcut⟩, hd2, fun d' h1 h2 => ?_⟩, fun j hj => ?_, ho10⟩
              · simp only [pack]
                congr 4
                rw [hnd, hll]
              · exact ⟨s.size + 2, by omega, b.length, .rw, ic ql, by rw [hql], by rw [hql]; exact Nat.le_refl _, hgp4, .inl rfl, by rw [ic_len]; omega, by rw [Nat.mul_one, ← ic_len, List.take_length]⟩
              · exact Classical.byContradiction fun e => hno d' (by omega) h1 h2
              · rw [hqv j hj, if_pos hj]
                exact Int.tdiv_eq_ediv_of_dvd (hcut.2 j hj)
            · -- t102 = True
              have hjl : j < M.length := by
                have : (j : Int) < (b.length : Int) := of_decide_eq_true h102
                omega
              have hqj : ql.getD j 0 = pl.getD j 0 := by rw [hqv j hjl, if_neg (by omega)]
              have hqb : -9223372036854775808 ≤ (ql.getD j 0).tdiv d ∧ (ql.getD j 0).tdiv d ≤ 9223372036854775807 := by
                have hdv : (d : Int) ∣ pl.getD j 0 := hcut.2 j hjl
                rw [hqj, Int.tdiv_eq_ediv_of_dvd hdv]
                have hb1 := hPr.bd hA.asg hgb hr hm6 j hjl
                have e1 : (10000000000 : Int) ≤ 10000000000 * d := by omega
                have e2 : (-10000000000 : Int) * d ≤ -10000000000 := by omega
                have h1 : (pl.getD j 0) / (d : Int) ≤ 10000000000 := Int.ediv_le_of_le_mul (by omega) (by omega)
                have h2 : -10000000000 ≤ (pl.getD j 0) / (d : Int) := Int.le_ediv_of_mul_le (by omega) (by omega)
                omega
              refine Wk.next ?_
              refine Wc.assoc ?_
              refine Wc.condT rfl ?_
              refine Wc.skip ?_
              refine Wc.assoc ?_
              refine Wc.block ?_
              refine Wc.assoc ?_
              refine Wc.region ?_
              refine Wk.q rfl rfl rfl (Qk.move rfl) ?_
              refine Wk.q rfl rfl rfl (Qk.assign rfl) ?_
              refine Wk.next ?_
              refine Wc.draw0 rfl ?_
              refine Wd.q rfl rfl rfl (Qk.fa rfl fd46_1) ?_
              refine Wd.r rfl rfl rfl (Rk.cell rfl sh29 (by first | assumption | repeat (first | exact gnew | exact gsetn gnew | assumption | exact gsetn (by assumption) | refine gpush ?_ | refine gset ?_ (by first | omega | (simp; omega)) )) (by simp) rfl) rfl ?_
              refine Wd.q rfl rfl rfl (Qk.move rfl) ?_
              refine Wd.q rfl rfl rfl (Qk.at1 rfl rfl ar29 sl29 (by constructor <;> omega)) ?_
              refine Wd.r rfl rfl rfl (Rk.int (i := j) rfl sh3 (by first | assumption | repeat (first | exact gnew | exact gsetn gnew | assumption | exact gsetn (by assumption) | refine gpush ?_ | refine gset ?_ (by first | omega | (simp; omega)) )) (by simp) (by first | omega | (simp; omega))) rfl ?_
              refine Wd.r rfl rfl rfl (Rk.cell rfl sh3 (by first | assumption | repeat (first | exact gnew | exact gsetn gnew | assumption | exact gsetn (by assumption) | refine gpush ?_ | refine gset ?_ (by first | omega | (simp; omega)) )) (by simp) rfl) rfl ?_
              refine Wd.q rfl rfl rfl (Qk.quoI rfl rfl (by omega) hqb) ?_
              refine Wd.q rfl rfl rfl (Qk.at1 rfl rfl ar29 sl29 (by constructor <;> omega)) ?_
              refine Wd.h rfl rfl rfl (Hk.int (i := j) rfl rfl sh3 (by first | assumption | repeat (first | exact gnew | exact gsetn gnew | assumption | exact gsetn (by assumption) | refine gpush ?_ | refine gset ?_ (by first | omega | (simp; omega)) )) (by first | omega | (simp; omega))) rfl rfl ?_
              refine Wd.next ?_
              refine Wc.store fun s11 e11 => ?_
              have ho11 : Old s s11 := by subst e11; exact hoq.gset (by omega)
              have hgo11 : s11.get (s.size + 1) = some ⟨[.slice none 0 0, .slice none 0 0, .int .i64 0], .rw⟩ := by subst e11; exact gset hgo (by omega)
              have hgp11 : s11.get (s.size + 2) = some ⟨ic (ql.set j ((ql.getD j 0).tdiv d)), .rw⟩ := by subst e11; exact gsetn hgp
              have hgl11 : s11.get (s.size + 3) = some ⟨[.slice ab b.length capb, .slice (some ⟨s.size + 2, 0, none⟩) b.length b.length, .int .i64 ((b.length : Int).tdiv d)], .rw⟩ := by subst e11; exact gset hgl (by omega)
              have hgd11 : s11.get pd = some ⟨[.int .i64 d], .rw⟩ := by subst e11; exact gset hgd (by omega)
              refine Wc.thence (fun _ _ => rfl) ?_
              refine Wc.region ?_
              refine Wk.q rfl rfl rfl (Qk.add rfl rfl (by omega)) ?_
              refine Wk.q rfl rfl rfl (Qk.move rfl) ?_
              refine Wk.next ?_
              refine Wc.finish fun fr hf => ?_
              refine ⟨(j + 1, ql.set j ((ql.getD j 0).tdiv d), s11), ⟨hjl, by simpa using hql, ho11, hgd11, hgo11, hgp11, hgl11, fun k hk => ?_⟩, by dsimp only; omega, rfl, hf.less ⟨rfl, rfl, rfl, rfl, rfl, trivial⟩⟩
              dsimp only
              rw [getD_set (by omega)]
              by_cases e : j = k
              · subst e; rw [if_pos rfl, if_pos (by omega), hqj]
              · rw [if_neg e, hqv k hk]
                by_cases e2 : k < j
                · rw [if_pos e2, if_pos (by omega)]
                · rw [if_neg e2, if_neg (by omega)]
    · -- t52 = True
      have hil : i < M.length := by
        have : (i : Int) < (b.length : Int) := of_decide_eq_true h52
        omega
      have hai := hlt0 i hil
      have hni := hnn i hil
      have hsqi := hB.square i hil
      have hrwi : IRow sa (rv i) (rowM M i) := (hrow i hil).old hoa
      have hr1' : 0 ≤ (rowM M i).getD (asgOf b i) 0 ∧ (rowM M i).getD (asgOf b i) 0 ≤ 1000000 := hB.range i (asgOf b i) hil hai
      have hγi := hγ i hil
      have hsb := Sm.bdg (n := M.length) (g := (gOf M b Γ)) hgb
      have hmu : -2000000000 ≤ (b.length : Int) * ((rowM M i).getD (asgOf b i) 0 - Γ.getD i 0) ∧ (b.length : Int) * ((rowM M i).getD (asgOf b i) 0 - Γ.getD i 0) ≤ 2000000000 := mul6 (by omega) (by omega)
      refine Wk.next ?_
      refine Wc.assoc ?_
      refine Wc.condT rfl ?_
      refine Wc.skip ?_
      refine Wc.assoc ?_
      refine Wc.block ?_
      refine Wc.assoc ?_
      refine Wc.region ?_
      refine Wk.q rfl rfl rfl (Qk.move rfl) ?_
      refine Wk.q rfl rfl rfl (Qk.at rfl rfl ar29 sl29 hb (by constructor <;> omega)) ?_
      refine Wk.r rfl rfl rfl (Rk.intR rfl sh3 hb (i := i) (by omega)) ?_
      refine Wk.q rfl rfl rfl (Qk.assign rfl) ?_
      refine Wk.q rfl rfl rfl (Qk.assign rfl) ?_
      refine Wk.next ?_
      refine Wc.draw0 rfl ?_
      refine Wd.q rfl rfl rfl (Qk.fa rfl fd46_1) ?_
      refine Wd.r rfl rfl rfl (Rk.cell rfl sh29 (by first | assumption | repeat (first | exact gnew | exact gsetn gnew | assumption | exact gsetn (by assumption) | refine gpush ?_ | refine gset ?_ (by first | omega | (simp; omega)) )) (by simp) rfl) (by kernel_rfl) ?_
      refine Wd.q rfl rfl rfl (Qk.move rfl) ?_
      refine Wd.q rfl rfl rfl (Qk.move rfl) ?_
      refine Wd.q rfl rfl rfl (Qk.fa rfl fd24_0) ?_
      refine Wd.r rfl rfl rfl (Rk.cell rfl sh22 (by first | assumption | repeat (first | exact gnew | exact gsetn gnew | assumption | exact gsetn (by assumption) | refine gpush ?_ | refine gset ?_ (by first | omega | (simp; omega)) )) (by simp) rfl) (by kernel_rfl) ?_
      refine Wd.q rfl rfl rfl (Qk.move rfl) ?_
      refine Wd.q rfl rfl rfl (Qk.at rfl rfl ar22 sl22 (hR.old (by assumption)) (by constructor <;> omega)) ?_
      refine Wd.r rfl rfl rfl (Rk.atS rfl sh29 (hR.old (by assumption)) (i := i) (by omega) rfl) (by kernel_rfl) ?_
      refine Wd.q rfl rfl rfl (Qk.move rfl) ?_
      refine Wd.q rfl rfl rfl (Qk.at rfl rfl ar29 sl29 hrwi (by constructor <;> omega)) ?_
      refine Wd.r rfl rfl rfl (Rk.intR rfl sh3 hrwi (i := (asgOf b i)) (by omega)) (by kernel_rfl) ?_
      refine Wd.q rfl rfl rfl (Qk.move rfl) ?_
      refine Wd.q rfl rfl rfl (Qk.move rfl) ?_
      refine Wd.q rfl rfl rfl (Qk.at rfl rfl ar29 sl29 hgv (by constructor <;> omega)) ?_
      refine Wd.r rfl rfl rfl (Rk.intR rfl sh3 hgv (i := i) (by omega)) (by kernel_rfl) ?_
      refine Wd.q rfl rfl rfl (Qk.sub rfl rfl (by omega)) ?_
      refine Wd.q rfl rfl rfl (Qk.mul rfl rfl (by omega)) ?_
      refine Wd.q rfl rfl rfl (Qk.move rfl) ?_
      refine Wd.q rfl rfl rfl (Qk.sub rfl rfl (by omega)) ?_
      refine Wd.q rfl rfl rfl (Qk.at1 rfl rfl ar29 sl29 (by constructor <;> omega)) ?_
      refine Wd.h rfl rfl rfl (Hk.int (i := (asgOf b i)) rfl rfl sh3 (by first | assumption | repeat (first | exact gnew | exact gsetn gnew | assumption | exact gsetn (by assumption) | refine gpush ?_ | refine gset ?_ (by first | omega | (simp; omega)) )) (by first | omega | (simp; omega))) (by kernel_rfl) (by kernel_rfl) ?_
      refine Wd.next ?_
      refine Wc.store fun s12 e12 => ?_
      have ho12 : Old s s12 := by subst e12; exact hoa.gset (by omega)
      have hg12 : s12.get s.size = some ⟨[.slice av M.length capv, .int .i64 rent], .rw⟩ := by subst e12; exact gset hg2 (by omega)
      have hgo12 : s12.get (s.size + 1) = some ⟨[.slice none 0 0, .slice none 0 0, .int .i64 0], .rw⟩ := by subst e12; exact gset hgo2 (by omega)
      have hgl12 : s12.get (s.size + 3) = some ⟨[.slice ab b.length capb, .slice (some ⟨s.size + 2, 0, none⟩) b.length b.length, goInt b.length], .rw⟩ := by subst e12; exact gset hgl2 (by omega)
      have hgp12 : s12.get (s.size + 2) = some ⟨ic (pl.set (asgOf b i) ((b.length : Int) * ((rowM M i).getD (asgOf b i) 0 - Γ.getD i 0) - (-rent + Sm M.length (gOf M b Γ)))), .rw⟩ := by subst e12; exact gsetn hgp2
      refine Wc.thence (fun _ _ => rfl) ?_
      refine Wc.region ?_
      refine Wk.q rfl rfl rfl (Qk.add rfl rfl (by omega)) ?_
      refine Wk.q rfl rfl rfl (Qk.move rfl) ?_
      refine Wk.next ?_
      refine Wc.finish fun fr hf => ?_
      refine ⟨(i + 1, _, s12), ⟨hil, by simpa using hpl, ho12, hg12, hgo12, hgp12, hgl12, fun k hk => ?_⟩, by dsimp only; omega, rfl, hf.less ⟨rfl, rfl, rfl, rfl, rfl, rfl, rfl, rfl, rfl, rfl, trivial⟩⟩
      dsimp only at hk ⊢
      rw [getD_set (by omega)]
      by_cases e : k = i
      · subst e; rw [if_pos rfl]; rfl
      · rw [if_neg (fun e2 => e (hA.asg.inj _ _ (by omega) hil e2.symm))]
        exact hpv k (by omega)
  · -- t24 = True
    have hil : i < M.length := by
      have : (i : Int) < (b.length : Int) := of_decide_eq_true h24
      omega
    have hai := hlt0 i hil
    have hni := hnn i hil
    have hsqi := hB.square i hil
    have hrwi : IRow s1 (rv i) (rowM M i) := (hrow i hil).old ho1
    have hr1' : 0 ≤ (rowM M i).getD (asgOf b i) 0 ∧ (rowM M i).getD (asgOf b i) 0 ≤ 1000000 := hB.range i (asgOf b i) hil hai
    have hγi := hγ i hil
    refine Wk.next ?_
    refine Wc.assoc ?_
    refine Wc.condT rfl ?_
    refine Wc.skip ?_
    refine Wc.assoc ?_
    refine Wc.block ?_
    refine Wc.assoc ?_
    refine Wc.region ?_
    refine Wk.q rfl rfl rfl (Qk.move rfl) ?_
    refine Wk.q rfl rfl rfl (Qk.at rfl rfl ar29 sl29 hb (by constructor <;> omega)) ?_
    refine Wk.r rfl rfl rfl (Rk.intR rfl sh3 hb (i := i) (by omega)) ?_
    refine Wk.q rfl rfl rfl (Qk.assign rfl) ?_
    refine Wk.q rfl rfl rfl (Qk.assign rfl) ?_
    refine Wk.next ?_
    refine Wc.draw0 rfl ?_
    refine Wd.q rfl rfl rfl (Qk.move rfl) ?_
    refine Wd.q rfl rfl rfl (Qk.fa rfl fd24_0) ?_
    refine Wd.r rfl rfl rfl (Rk.cell rfl sh22 (by first | assumption | repeat (first | exact gnew | exact gsetn gnew | assumption | exact gsetn (by assumption) | refine gpush ?_ | refine gset ?_ (by first | omega | (simp; omega)) )) (by simp) rfl) rfl ?_
    refine Wd.q rfl rfl rfl (Qk.move rfl) ?_
    refine Wd.q rfl rfl rfl (Qk.at rfl rfl ar22 sl22 (hR.old (by assumption)) (by constructor <;> omega)) ?_
    refine Wd.r rfl rfl rfl (Rk.atS rfl sh29 (hR.old (by assumption)) (i := i) (by omega) rfl) rfl ?_
    refine Wd.q rfl rfl rfl (Qk.move rfl) ?_
    refine Wd.q rfl rfl rfl (Qk.at rfl rfl ar29 sl29 hrwi (by constructor <;> omega)) ?_
    refine Wd.r rfl rfl rfl (Rk.intR rfl sh3 hrwi (i := (asgOf b i)) (by omega)) rfl ?_
    refine Wd.q rfl rfl rfl (Qk.move rfl) ?_
    refine Wd.q rfl rfl rfl (Qk.move rfl) ?_
    refine Wd.q rfl rfl rfl (Qk.at rfl rfl ar29 sl29 hgv (by constructor <;> omega)) ?_
    refine Wd.r rfl rfl rfl (Rk.intR rfl sh3 hgv (i := i) (by omega)) rfl ?_
    refine Wd.q rfl rfl rfl (Qk.sub rfl rfl (by omega)) ?_
    refine Wd.q rfl rfl rfl (Qk.add rfl rfl (by omega)) ?_
    refine Wd.q rfl rfl rfl (Qk.assign rfl) ?_
    refine Wd.next ?_
    refine Wc.thence (fun _ _ => rfl) ?_
    refine Wc.region ?_
    refine Wk.q rfl rfl rfl (Qk.add rfl rfl (by omega)) ?_
    refine Wk.q rfl rfl rfl (Qk.move rfl) ?_
    refine Wk.next ?_
    refine Wc.finish fun fr hf => ?_
    exact ⟨i + 1, hil, by omega, rfl, hf.less ⟨rfl, rfl, rfl, rfl, rfl, by simp only [Sm, ← Int.add_assoc]; rfl, rfl, rfl, rfl, trivial⟩⟩
end Go.Proofs.Ytfgnjndicidpkaa
