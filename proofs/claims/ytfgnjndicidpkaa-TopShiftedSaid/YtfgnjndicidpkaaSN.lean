/- The fair and the calm lease. -/
import Derived.Test.YtfgnjndicidpkaaSM
namespace Go.Proofs.Ytfgnjndicidpkaa
open Go.Abs
variable {K : Known}

theorem ldOf_bd {M : List (List Int)} (hB : Bids M) (hHO : HasOpt M) {b : List Int} (hA : AsgL M.length b) : ∀ i k, i < M.length → k < M.length → -66000000 ≤ ldOf M b i k ∧ ldOf M b i k ≤ 66000000 := fun i k hi hk => by
  have h1 := hB.range i (asgOf b i) hi (hA.asg.lt i hi)
  have h2 := hB.range k (asgOf b k) hk (hA.asg.lt k hk)
  have h3 := LK_bd hB hHO (hA.asg.lt i hi) (hA.asg.lt k hk)
  unfold ldOf
  omega
/-- The least of 0 and what the first leads leave. -/
def lowTo (f : Nat → Nat → Int) : Nat → Nat → Int
  | 0, _ => 0
  | x + 1, k => if -(f x k) < lowTo f x k then -(f x k) else lowTo f x k
theorem lowTo_bd {f : Nat → Nat → Int} {k : Nat} {B : Int} (hB : 0 ≤ B) : ∀ n, (∀ x, x < n → -B ≤ f x k ∧ f x k ≤ B) → -B ≤ lowTo f n k ∧ lowTo f n k ≤ B
  | 0, _ => by simp only [lowTo]; omega
  | n + 1, h => by
    have h1 := lowTo_bd hB n fun x hx => h x (by omega)
    have h2 := h n (by omega)
    simp only [lowTo]
    omega
/-- A lease as a value. -/
def LeaseV (s : St) (r : Value) (n : Nat) (b pl : List Int) (d : Nat) : Prop := ∃ bv pv, r = .agg #[bv, pv, .int .i64 ((n : Int) / (d : Nat))] ∧ IRow s bv b ∧ IRow s pv pl
/-- A lease of given gains. -/
structure Leased (M : List (List Int)) (rent : Int) (b pl : List Int) (d : Nat) (γ : Nat → Int) : Prop where
  asg : AsgL M.length b
  opt : Opt M.length (matM M) (asgOf b)
  len : pl.length = M.length
  ex : ∃ P, Priced M.length (matM M) rent (asgOf b) γ P ∧ Red M.length P d ∧ ∀ j, j < M.length → pl.getD j 0 = P j / d
set_option maxHeartbeats 4000000 in
set_option maxRecDepth 100000 in
theorem c14 (hK : Late K) {M : List (List Int)} {v : Value} {rent : Int} {s : St} (hm : MRow s v M) (hB : Bids M) (hr : 0 ≤ rent ∧ rent ≤ 10000000) :
    Ev Try.prog K (.func (.func 14) #[] #[]) [.agg #[v, .int .i64 rent]] s fun r s' => ∃ b pl d γ, (∃ lv, r = .tuple #[lv, .int .i64 0] ∧ LeaseV s' lv M.length b pl d) ∧ Leased M rent b pl d γ ∧ (∀ i, i < M.length → MaxTo (rowM (tab M.length (ldOf M b)) i) M.length (γ i)) ∧ HasOpt M ∧ Old s s' := by
  obtain ⟨rv, hR, hrow⟩ := id hm
  obtain ⟨av, capv, rfl, _⟩ := id hR
  refine Ev.enterK (hK.none (by decide) _) Try.func14 rfl rfl (Nat.le_of_ble_eq_true rfl) ?_
  refine Wc.tail ?_
  refine Wc.assoc ?_
  refine Wc.region ?_
  refine Wk.f rfl rfl rfl (Fk.box rfl rfl) ?_
  refine Wk.f rfl rfl rfl (Fk.alloc ze46) ?_
  refine Wk.q rfl rfl rfl (Qk.assign rfl) ?_
  refine Wk.next ?_
  refine Wc.store fun s1 e1 => ?_
  have ho1 : Old s s1 := by subst e1; exact (Old.push _ _).gpush _
  have hg1 : s1.get s.size = some ⟨[.slice av M.length capv, .int .i64 rent], .rw⟩ := by subst e1; exact gpush gnew
  have hgo1 : s1.get (s.size + 1) = some ⟨[.slice none 0 0, .slice none 0 0, .int .i64 0], .rw⟩ := by subst e1; exact g1
  have hpz : ∀ a : Blk, (s.push a).size = s.size + 1 := fun a => by simp
  rw [hpz]
  clear e1
  refine Wc.assoc ?_
  refine Wc.region ?_
  refine Wk.r rfl rfl rfl (Rk.cells rfl sh24 (by first | assumption | repeat (first | exact gnew | exact gsetn gnew | assumption | exact gsetn (by assumption) | refine gpush ?_ | refine gset ?_ (by first | omega | (simp; omega)) )) (by simp) (by simp)) ?_
  refine Wk.c rfl rfl rfl (Ck.call rfl rfl) ((c33 hK (hm.old ho1) hB hr).mono ?_)
  rintro r t2 ⟨b, bv, cb, lv, rfl, hown, hcb, hA, hO, hL1, hHO, ho2⟩
  obtain ⟨cap, md, cs, hbe, _⟩ := id hown
  subst hbe
  obtain ⟨rvl, hLr, hLrow⟩ := hL1
  rw [tab_len] at hLr
  simp only [tab_len] at hLrow
  obtain ⟨al, capl, hle, _⟩ := id hLr
  subst hle
  have hll := hA.len
  have hb := hown.irow
  have hm6 := hB.most
  have ho12 := ho1.trans ho2
  have hg2 := ho2.get hg1
  have hgo2 := ho2.get hgo1
  have hldb := ldOf_bd hB hHO hA
  have hlen : ∀ k, k < M.length → (rowM (tab M.length (ldOf M b)) k).length = M.length := fun k hk => by rw [tab_row hk]; simp
  refine Wk.q rfl rfl rfl (Qk.move rfl) ?_
  refine Wk.q rfl rfl rfl (Qk.extract rfl rfl) ?_
  refine Wk.q rfl rfl rfl (Qk.extract rfl rfl) ?_
  refine Wk.q rfl rfl rfl (Qk.extract rfl rfl) ?_
  refine Wk.q rfl rfl rfl (Qk.assign rfl) ?_
  refine Wk.q rfl rfl rfl (Qk.assign rfl) ?_
  refine Wk.q rfl rfl rfl (Qk.assign rfl) ?_
  refine Wk.next ?_
  refine Wc.assoc ?_
  refine Wc.assoc ?_
  refine Wc.region ?_
  refine Wk.q rfl rfl rfl (Qk.move rfl) ?_
  refine Wk.b rfl rfl rfl (Qk.bin rfl rfl rfl) fun b h17 => ?_
  obtain rfl : b = false := by exact h17.symm -- t17
  refine Wk.next ?_
  refine Wc.condF rfl ?_
  refine Wc.skip ?_
  refine Wc.assoc ?_
  refine Wc.region ?_
  refine Wk.q rfl rfl rfl (Qk.assign rfl) ?_
  refine Wk.next ?_
  refine Wc.assoc ?_
  refine Wc.assoc ?_
  refine Wc.region ?_
  refine Wk.q rfl rfl rfl (Qk.move rfl) ?_
  refine Wk.q rfl rfl rfl (Qk.lenR rfl rfl rfl hLr sl22) ?_
  refine Wk.q rfl rfl rfl (Qk.move rfl) ?_
  refine Wk.next ?_
  refine Wc.block ?_
  refine Wc.loop (σ := List Int × Value × Option Nat × St) (fun y => y.1.length ≤ M.length ∧ Old t2 y.2.2.2 ∧ Grew y.2.2.2 t2.size y.2.1 1 y.1.length (ic y.1) y.2.2.1 ∧ ∀ k, k < y.1.length → MaxTo (rowM (tab M.length (ldOf M b)) k) M.length (y.1.getD k 0))
    (fun y => [(1, .pointer (some ⟨s.size, 0, none⟩)), (2, .pointer (some ⟨s.size + 1, 0, none⟩)), (4, .slice (some ⟨cb, 0, none⟩) b.length cap), (7, y.2.1), (20, .slice al M.length capl), (21, goInt M.length), (22, .int .i64 y.1.length)]) (fun y => y.2.2.2) (fun y => M.length - y.1.length) ([], .slice none 0 0, none, t2)
    ⟨Nat.zero_le _, Old.refl _, Grew.nil, fun k hk => absurd hk (Nat.not_lt_zero _)⟩ ⟨rfl, rfl, rfl, rfl, rfl, rfl, rfl, trivial⟩ rfl ?_
  rintro ⟨Γ, gv, bo, sa⟩ ⟨hi, hoa, hgr, hmx⟩
  dsimp only at hi hoa hgr hmx ⊢
  refine Wc.assoc ?_
  refine Wc.region ?_
  refine Wk.b rfl rfl rfl (Qk.bin rfl rfl rfl) fun b h23 => ?_
  cases b
  · -- t23 = False
    have hge : Γ.length = M.length := by
      have : ¬ ((Γ.length : Int) < (M.length : Int)) := of_decide_eq_false h23
      omega
    have hosa := ho12.trans hoa
    have hg3 := hoa.get hg2
    have hgo3 := hoa.get hgo2
    have hgrow : IRow sa gv Γ := hgr.irow
    have hΓb : ∀ i, i < M.length → -200000000 ≤ Γ.getD i 0 ∧ Γ.getD i 0 ≤ 200000000 := fun i hi => by
      obtain ⟨k, hk, e⟩ := (hmx i (by omega)).has
      rw [← e, show (rowM (tab M.length (ldOf M b)) i).getD k 0 = ldOf M b i k from tab_mat hi hk]
      have := hldb i k hi hk
      omega
    refine Wk.next ?_
    refine Wc.assoc ?_
    refine Wc.condF rfl ?_
    refine Wc.jump (fun _ _ => rfl) ?_
    refine Wc.assoc ?_
    refine Wc.region ?_
    refine Wk.r rfl rfl rfl (Rk.cells rfl sh24 (by first | assumption | repeat (first | exact gnew | exact gsetn gnew | assumption | exact gsetn (by assumption) | refine gpush ?_ | refine gset ?_ (by first | omega | (simp; omega)) )) (by simp) (by simp)) ?_
    refine Wk.q rfl rfl rfl (Qk.move rfl) ?_
    refine Wk.q rfl rfl rfl (Qk.move rfl) ?_
    refine Wk.c rfl rfl rfl (Ck.call rfl rfl) ((c36 hK (hm.old hosa) hB hr (hb.old hoa) hgrow hA hge hΓb).mono ?_)
    rintro r3 t3 ⟨pv, pl, d, P, rfl, hpv, hpl, hPr, hRd, hpd, ho3⟩
    obtain ⟨pb, hpb, hpw⟩ := hpv
    obtain ⟨capp, mdp, csp, hpe, _⟩ := id hpw
    subst hpe
    have hgo4 := ho3.get hgo3
    refine Wk.h rfl rfl rfl (Hk.whole rfl rfl sh46 (by first | assumption | repeat (first | exact gnew | exact gsetn gnew | assumption | exact gsetn (by assumption) | refine gpush ?_ | refine gset ?_ (by first | omega | (simp; omega)) )) rfl rfl (by first | rfl | (show (true && (Abs.scalar _ && true)) = true; rw [Bool.true_and, Bool.and_true]; assumption))) ?_
    refine Wk.q rfl rfl rfl (Qk.assign rfl) ?_
    refine Wk.next ?_
    refine Wc.store fun s2 e2 => ?_
    have ho4 : Old s s2 := by subst e2; exact (hosa.trans ho3).gset (by omega)
    have hgo5 : s2.get (s.size + 1) = some ⟨[.slice (some ⟨cb, 0, none⟩) b.length cap, .slice (some ⟨pb, 0, none⟩) pl.length capp, .int .i64 ((M.length : Int) / (d : Nat))], .rw⟩ := by subst e2; exact gsetn hgo4
    refine Wc.doneC (fun _ _ => rfl) (ares_cell rfl (alW sh46 (by first | assumption | repeat (first | exact gnew | exact gsetn gnew | assumption | exact gsetn (by assumption) | refine gpush ?_ | refine gset ?_ (by first | omega | (simp; omega)) )) (by simp) rfl) (ares_tmp rfl ares_nil)) ?_
    refine ⟨b, pl, d, fun i => Γ.getD i 0, ⟨_, rfl, _, _, rfl, ?_, ?_⟩, ⟨hA, hO, hpl, P, hPr, hRd, hpd⟩, fun i hi => hmx i (by omega), hHO, ho4⟩
    · subst e2
      exact ((hown.old (hoa.trans ho3)).set _ (by have := St.get_lt hgo1; omega)).irow
    · subst e2
      exact (hpw.set _ (by have := St.get_lt hgo3; omega)).irow
  · -- t23 = True
    have hil : Γ.length < M.length := by
      have : (Γ.length : Int) < (M.length : Int) := of_decide_eq_true h23
      exact Int.ofNat_lt.1 this
    have hLi := (hLrow Γ.length hil).old hoa
    have hlLi := hlen Γ.length hil
    refine Wk.next ?_
    refine Wc.assoc ?_
    refine Wc.condT rfl ?_
    refine Wc.skip ?_
    refine Wc.assoc ?_
    refine Wc.block ?_
    refine Wc.assoc ?_
    refine Wc.region ?_
    refine Wk.q rfl rfl rfl (Qk.at rfl rfl ar22 sl22 (hLr.old (by assumption)) (by constructor <;> omega)) ?_
    refine Wk.r rfl rfl rfl (Rk.atS rfl sh29 (hLr.old (by assumption)) (i := Γ.length) (by omega) rfl) ?_
    refine Wk.q rfl rfl rfl (Qk.assign rfl) ?_
    refine Wk.next ?_
    refine Wc.region ?_
    refine Wk.q rfl rfl rfl (Qk.move rfl) ?_
    refine Wk.q rfl rfl rfl (Qk.move rfl) ?_
    refine Wk.c rfl rfl rfl (Ck.call rfl rfl) ((c35 hK hLi (by rw [hlLi]; have := hB.pos; omega)).mono ?_)
    rintro r3 t3 ⟨m, rfl, hm3, rfl⟩
    rw [hlLi] at hm3
    refine Wk.f rfl rfl rfl (Fk.one rfl rfl sl29 ze3 rfl rfl rfl (by decide)) ?_
    refine Wk.store' fun s3 e3 => ?_
    have ho6 : Old t3 s3 := by subst e3; exact Old.push _ _
    have hone : IRow s3 (.slice (some ⟨t3.size, 0, none⟩) 1 1) [m] := by subst e3; exact IRow.of_get (l := [m]) gnew (by simp) (Nat.le_refl _)
    obtain ⟨rv', t7, bo7, hap, hgr7, hb7, hsame7⟩ := append_ints ap29 (hgr.same (ho6.same []) (by simp)) (by have := hoa.1; have := ho6.1; omega) hone (by have := hB.most; simp; omega)
    refine Wk.h rfl rfl rfl (Hk.append rfl rfl rfl rfl (by first | exact hap | assumption)) ?_
    refine Wk.q rfl rfl rfl (Qk.assign rfl) ?_
    refine Wk.next ?_
    refine Wc.store fun s4 e4 => ?_
    subst e4
    refine Wc.thence (fun _ _ => rfl) ?_
    refine Wc.region ?_
    refine Wk.q rfl rfl rfl (Qk.add rfl rfl (by omega)) ?_
    refine Wk.q rfl rfl rfl (Qk.move rfl) ?_
    refine Wk.next ?_
    refine Wc.finish fun fr hf => ?_
    refine ⟨(Γ ++ [m], rv', bo7, s4), ⟨by simp; omega, Same.older (hoa.trans ho6) hsame7 (by intro x hx; cases bo with | none => simp at hx | some d => simp at hx; subst hx; exact hgr.ge rfl), ?_, fun k hk => ?_⟩, by dsimp only; simp; omega, rfl, hf.less ⟨rfl, rfl, rfl, rfl, rfl, rfl, by simp [kget], trivial⟩⟩
    · dsimp only
      rw [show ic (Γ ++ [m]) = ic Γ ++ ic [m] by simp [ic], List.length_append]
      exact hgr7
    · dsimp only at hk ⊢
      rw [List.length_append] at hk
      by_cases e : k = Γ.length
      · subst e; rw [getD_app2]; exact hm3
      · have hk' : k < Γ.length := by simp at hk; omega
        rw [getD_app1 hk']; exact hmx k hk'
set_option maxHeartbeats 4000000 in
set_option maxRecDepth 100000 in
theorem c15 (hK : Late K) {M : List (List Int)} {v : Value} {rent : Int} {s : St} (hm : MRow s v M) (hB : Bids M) (hr : 0 ≤ rent ∧ rent ≤ 10000000) :
    Ev Try.prog K (.func (.func 15) #[] #[]) [.agg #[v, .int .i64 rent]] s fun r s' => ∃ b pl d γ, (∃ lv, r = .tuple #[lv, .int .i64 0] ∧ LeaseV s' lv M.length b pl d) ∧ Leased M rent b pl d γ ∧ (∀ i, i < M.length → γ i = lowTo (ldOf M b) M.length i) ∧ HasOpt M ∧ Old s s' := by
  obtain ⟨rv, hR, hrow⟩ := id hm
  obtain ⟨av, capv, rfl, _⟩ := id hR
  refine Ev.enterK (hK.none (by decide) _) Try.func15 rfl rfl (Nat.le_of_ble_eq_true rfl) ?_
  refine Wc.tail ?_
  refine Wc.assoc ?_
  refine Wc.region ?_
  refine Wk.f rfl rfl rfl (Fk.box rfl rfl) ?_
  refine Wk.f rfl rfl rfl (Fk.alloc ze46) ?_
  refine Wk.q rfl rfl rfl (Qk.assign rfl) ?_
  refine Wk.next ?_
  refine Wc.store fun s1 e1 => ?_
  have ho1 : Old s s1 := by subst e1; exact (Old.push _ _).gpush _
  have hg1 : s1.get s.size = some ⟨[.slice av M.length capv, .int .i64 rent], .rw⟩ := by subst e1; exact gpush gnew
  have hgo1 : s1.get (s.size + 1) = some ⟨[.slice none 0 0, .slice none 0 0, .int .i64 0], .rw⟩ := by subst e1; exact g1
  have hpz : ∀ a : Blk, (s.push a).size = s.size + 1 := fun a => by simp
  rw [hpz]
  clear e1
  refine Wc.assoc ?_
  refine Wc.region ?_
  refine Wk.r rfl rfl rfl (Rk.cells rfl sh24 (by first | assumption | repeat (first | exact gnew | exact gsetn gnew | assumption | exact gsetn (by assumption) | refine gpush ?_ | refine gset ?_ (by first | omega | (simp; omega)) )) (by simp) (by simp)) ?_
  refine Wk.c rfl rfl rfl (Ck.call rfl rfl) ((c33 hK (hm.old ho1) hB hr).mono ?_)
  rintro r t2 ⟨b, bv, cb, lv, rfl, hown, hcb, hA, hO, hL1, hHO, ho2⟩
  obtain ⟨cap, md, cs, hbe, _⟩ := id hown
  subst hbe
  obtain ⟨rvl, hLr, hLrow⟩ := hL1
  rw [tab_len] at hLr
  simp only [tab_len] at hLrow
  obtain ⟨al, capl, hle, _⟩ := id hLr
  subst hle
  have hll := hA.len
  have hb := hown.irow
  have hm6 := hB.most
  have ho12 := ho1.trans ho2
  have hg2 := ho2.get hg1
  have hgo2 := ho2.get hgo1
  have hldb := ldOf_bd hB hHO hA
  have hlen : ∀ k, k < M.length → (rowM (tab M.length (ldOf M b)) k).length = M.length := fun k hk => by rw [tab_row hk]; simp
  refine Wk.q rfl rfl rfl (Qk.move rfl) ?_
  refine Wk.q rfl rfl rfl (Qk.extract rfl rfl) ?_
  refine Wk.q rfl rfl rfl (Qk.extract rfl rfl) ?_
  refine Wk.q rfl rfl rfl (Qk.extract rfl rfl) ?_
  refine Wk.q rfl rfl rfl (Qk.assign rfl) ?_
  refine Wk.q rfl rfl rfl (Qk.assign rfl) ?_
  refine Wk.q rfl rfl rfl (Qk.assign rfl) ?_
  refine Wk.next ?_
  refine Wc.assoc ?_
  refine Wc.assoc ?_
  refine Wc.region ?_
  refine Wk.q rfl rfl rfl (Qk.move rfl) ?_
  refine Wk.b rfl rfl rfl (Qk.bin rfl rfl rfl) fun b h19 => ?_
  obtain rfl : b = false := by exact h19.symm -- t19
  refine Wk.next ?_
  refine Wc.condF rfl ?_
  refine Wc.skip ?_
  refine Wc.assoc ?_
  refine Wc.region ?_
  refine Wk.q rfl rfl rfl (Qk.move rfl) ?_
  refine Wk.q rfl rfl rfl (Qk.lenR rfl rfl rfl hb sl29) ?_
  refine Wk.f rfl rfl rfl (Fk.ints rfl rfl sl29 ze3 (by omega)) ?_
  refine Wk.q rfl rfl rfl (Qk.assign rfl) ?_
  refine Wk.next ?_
  refine Wc.store fun s2 e2 => ?_
  have hos2 : Old t2 s2 := by subst e2; exact Old.push _ _
  have hgx2 : s2.get t2.size = some ⟨ic (List.replicate b.length 0), .rw⟩ := by subst e2; exact gnew
  have hLr0 := hLr
  have hLr := Row.old hos2 hLr
  clear e2
  refine Wc.assoc ?_
  refine Wc.assoc ?_
  refine Wc.region ?_
  refine Wk.q rfl rfl rfl (Qk.move rfl) ?_
  refine Wk.q rfl rfl rfl (Qk.lenR rfl rfl rfl hLr sl22) ?_
  refine Wk.q rfl rfl rfl (Qk.move rfl) ?_
  refine Wk.next ?_
  refine Wc.block ?_
  refine Wc.loop (σ := Nat × List Int × St) (fun y => y.1 ≤ M.length ∧ Old t2 y.2.2 ∧ y.2.1.length = b.length ∧ y.2.2.get t2.size = some ⟨ic y.2.1, .rw⟩ ∧ ∀ k, k < M.length → y.2.1.getD k 0 = lowTo (ldOf M b) y.1 k)
    (fun y => [(1, .pointer (some ⟨s.size, 0, none⟩)), (2, .pointer (some ⟨s.size + 1, 0, none⟩)), (4, .slice (some ⟨cb, 0, none⟩) b.length cap), (7, .slice (some ⟨t2.size, 0, none⟩) b.length b.length), (25, .slice al M.length capl), (26, goInt M.length), (27, .int .i64 y.1)]) (fun y => y.2.2) (fun y => M.length - y.1) (0, List.replicate b.length 0, s2)
    ⟨Nat.zero_le _, hos2, by simp, hgx2, fun k hk => by simp [lowTo, List.getD, List.getElem?_replicate]; split <;> rfl⟩ ⟨rfl, rfl, rfl, rfl, rfl, rfl, rfl, trivial⟩ rfl ?_
  clear hos2 hgx2 hLr
  rintro ⟨i, Γ, sa⟩ ⟨hi, hoa, hΓ, hgx, hlw⟩
  dsimp only at hi hoa hΓ hgx hlw ⊢
  have hLr : Row sa (.slice al M.length capl) M.length 1 (fun i => [rvl i]) := Row.old hoa hLr0
  refine Wc.assoc ?_
  refine Wc.region ?_
  refine Wk.b rfl rfl rfl (Qk.bin rfl rfl rfl) fun b h28 => ?_
  cases b
  · -- t28 = False
    have hge : i = M.length := by
      have : ¬ ((i : Int) < (M.length : Int)) := of_decide_eq_false h28
      omega
    subst hge
    have hosa := ho12.trans hoa
    have hg3 := hoa.get hg2
    have hgo3 := hoa.get hgo2
    have hgrow : IRow sa (.slice (some ⟨t2.size, 0, none⟩) b.length b.length) Γ := by rw [← hΓ]; exact IRow.of_get hgx (by simp) (Nat.le_refl _)
    have hΓb : ∀ i, i < M.length → -200000000 ≤ Γ.getD i 0 ∧ Γ.getD i 0 ≤ 200000000 := fun i hi => by
      rw [hlw i hi]
      have := lowTo_bd (f := ldOf M b) (k := i) (B := 66000000) (by omega) M.length (fun x hx => hldb x i hx hi)
      omega
    refine Wk.next ?_
    refine Wc.assoc ?_
    refine Wc.condF rfl ?_
    refine Wc.jump (fun _ _ => rfl) ?_
    refine Wc.assoc ?_
    refine Wc.region ?_
    refine Wk.r rfl rfl rfl (Rk.cells rfl sh24 (by first | assumption | repeat (first | exact gnew | exact gsetn gnew | assumption | exact gsetn (by assumption) | refine gpush ?_ | refine gset ?_ (by first | omega | (simp; omega)) )) (by simp) (by simp)) ?_
    refine Wk.q rfl rfl rfl (Qk.move rfl) ?_
    refine Wk.q rfl rfl rfl (Qk.move rfl) ?_
    refine Wk.c rfl rfl rfl (Ck.call rfl rfl) ((c36 hK (hm.old hosa) hB hr (hb.old hoa) hgrow hA (by omega) hΓb).mono ?_)
    rintro r3 t3 ⟨pv, pl, d, P, rfl, hpv, hpl, hPr, hRd, hpd, ho3⟩
    obtain ⟨pb, hpb, hpw⟩ := hpv
    obtain ⟨capp, mdp, csp, hpe, _⟩ := id hpw
    subst hpe
    have hgo4 := ho3.get hgo3
    refine Wk.h rfl rfl rfl (Hk.whole rfl rfl sh46 (by first | assumption | repeat (first | exact gnew | exact gsetn gnew | assumption | exact gsetn (by assumption) | refine gpush ?_ | refine gset ?_ (by first | omega | (simp; omega)) )) rfl rfl (by first | rfl | (show (true && (Abs.scalar _ && true)) = true; rw [Bool.true_and, Bool.and_true]; assumption))) ?_
    refine Wk.q rfl rfl rfl (Qk.assign rfl) ?_
    refine Wk.next ?_
    refine Wc.store fun s3 e3 => ?_
    have ho4 : Old s s3 := by subst e3; exact (hosa.trans ho3).gset (by omega)
    have hgo5 : s3.get (s.size + 1) = some ⟨[.slice (some ⟨cb, 0, none⟩) b.length cap, .slice (some ⟨pb, 0, none⟩) pl.length capp, .int .i64 ((M.length : Int) / (d : Nat))], .rw⟩ := by subst e3; exact gsetn hgo4
    refine Wc.doneC (fun _ _ => rfl) (ares_cell rfl (alW sh46 (by first | assumption | repeat (first | exact gnew | exact gsetn gnew | assumption | exact gsetn (by assumption) | refine gpush ?_ | refine gset ?_ (by first | omega | (simp; omega)) )) (by simp) rfl) (ares_tmp rfl ares_nil)) ?_
    refine ⟨b, pl, d, fun i => Γ.getD i 0, ⟨_, rfl, _, _, rfl, ?_, ?_⟩, ⟨hA, hO, hpl, P, hPr, hRd, hpd⟩, fun i hi => hlw i hi, hHO, ho4⟩
    · subst e3
      exact ((hown.old (hoa.trans ho3)).set _ (by have := St.get_lt hgo1; omega)).irow
    · subst e3
      exact (hpw.set _ (by have := St.get_lt hgo3; omega)).irow
  · -- t28 = True
    have hil : i < M.length := by
      have : (i : Int) < (M.length : Int) := of_decide_eq_true h28
      omega
    have hLi0 := (hLrow i hil).old hoa
    have hLi := hLi0
    have hlLi := hlen i hil
    refine Wk.next ?_
    refine Wc.assoc ?_
    refine Wc.condT rfl ?_
    refine Wc.skip ?_
    refine Wc.assoc ?_
    refine Wc.block ?_
    refine Wc.assoc ?_
    refine Wc.region ?_
    refine Wk.q rfl rfl rfl (Qk.at rfl rfl ar22 sl22 hLr (by constructor <;> omega)) ?_
    refine Wk.r rfl rfl rfl (Rk.atS rfl sh29 hLr (i := i) (by omega) rfl) ?_
    refine Wk.q rfl rfl rfl (Qk.assign rfl) ?_
    refine Wk.next ?_
    refine Wc.assoc ?_
    refine Wc.region ?_
    refine Wk.q rfl rfl rfl (Qk.move rfl) ?_
    refine Wk.q rfl rfl rfl (Qk.lenR rfl rfl rfl hLi sl29) ?_
    refine Wk.q rfl rfl rfl (Qk.move rfl) ?_
    refine Wk.next ?_
    refine Wc.block ?_
    refine Wc.loop (σ := Nat × List Int × St) (fun y => y.1 ≤ M.length ∧ Old t2 y.2.2 ∧ y.2.1.length = b.length ∧ y.2.2.get t2.size = some ⟨ic y.2.1, .rw⟩ ∧ ∀ k, k < M.length → y.2.1.getD k 0 = lowTo (ldOf M b) (if k < y.1 then i + 1 else i) k)
      (fun y => [(1, .pointer (some ⟨s.size, 0, none⟩)), (2, .pointer (some ⟨s.size + 1, 0, none⟩)), (4, .slice (some ⟨cb, 0, none⟩) b.length cap), (7, .slice (some ⟨t2.size, 0, none⟩) b.length b.length), (25, .slice al M.length capl), (26, goInt M.length), (27, .int .i64 i), (31, rvl i), (32, goInt (rowM (tab M.length (ldOf M b)) i).length), (33, .int .i64 y.1)]) (fun y => y.2.2) (fun y => M.length - y.1) (0, Γ, sa)
      ⟨Nat.zero_le _, hoa, hΓ, hgx, fun k hk => by simpa using hlw k hk⟩ ⟨rfl, rfl, rfl, rfl, rfl, rfl, rfl, rfl, rfl, rfl, trivial⟩ rfl ?_
    clear hoa hΓ hgx hlw hLr hLi hLi0
    rintro ⟨k, Γ, sa⟩ ⟨hk, hoa, hΓ, hgx, hlw⟩
    dsimp only at hk hoa hΓ hgx hlw ⊢
    have hLi : IRow sa (rvl i) (rowM (tab M.length (ldOf M b)) i) := (hLrow i hil).old hoa
    refine Wc.assoc ?_
    refine Wc.region ?_
    refine Wk.b rfl rfl rfl (Qk.bin rfl rfl rfl) fun b h34 => ?_
    cases b
    · -- t34 = False
      have hge : k = M.length := by
        have : ¬ ((k : Int) < ((rowM (tab M.length (ldOf M b)) i).length : Int)) := of_decide_eq_false h34
        omega
      subst hge
      refine Wk.next ?_
      refine Wc.assoc ?_
      refine Wc.condF rfl ?_
      refine Wc.jump (fun _ _ => rfl) ?_
      refine Wc.thence (fun _ _ => rfl) ?_
      refine Wc.region ?_
      refine Wk.q rfl rfl rfl (Qk.add rfl rfl (by omega)) ?_
      refine Wk.q rfl rfl rfl (Qk.move rfl) ?_
      refine Wk.next ?_
      refine Wc.finish fun fr hf => ?_
      exact ⟨(i + 1, Γ, sa), ⟨hil, hoa, hΓ, hgx, fun k hk => by have := hlw k hk; rwa [if_pos hk] at this⟩, by dsimp only; omega, rfl, hf.less ⟨rfl, rfl, rfl, rfl, rfl, rfl, rfl, trivial⟩⟩
    · -- t34 = True
      have hkl : k < M.length := by
        have : (k : Int) < ((rowM (tab M.length (ldOf M b)) i).length : Int) := of_decide_eq_true h34
        omega
      have vk : (rowM (tab M.length (ldOf M b)) i).getD k 0 = ldOf M b i k := tab_mat hil hkl
      have bk := hldb i k hil hkl
      have hΓk : Γ.getD k 0 = lowTo (ldOf M b) i k := by rw [hlw k hkl, if_neg (Nat.lt_irrefl _)]
      refine Wk.next ?_
      refine Wc.assoc ?_
      refine Wc.condT rfl ?_
      refine Wc.skip ?_
      refine Wc.assoc ?_
      refine Wc.block ?_
      refine Wc.assoc ?_
      refine Wc.region ?_
      refine Wk.q rfl rfl rfl (Qk.move rfl) ?_
      refine Wk.q rfl rfl rfl (Qk.at rfl rfl ar29 sl29 hLi (by constructor <;> omega)) ?_
      refine Wk.r rfl rfl rfl (Rk.intR rfl sh3 hLi (i := k) (by omega)) ?_
      refine Wk.q rfl rfl rfl (Qk.assign rfl) ?_
      refine Wk.q rfl rfl rfl (Qk.assign rfl) ?_
      refine Wk.next ?_
      refine Wc.region ?_
      refine Wk.q rfl rfl rfl (Qk.move rfl) ?_
      refine Wk.q rfl rfl rfl (Qk.move rfl) ?_
      refine Wk.q rfl rfl rfl (Qk.move rfl) ?_
      refine Wk.q rfl rfl rfl (Qk.move rfl) ?_
      refine Wk.q rfl rfl rfl (Qk.at1 rfl rfl ar29 sl29 (by constructor <;> omega)) ?_
      refine Wk.r rfl rfl rfl (Rk.int (i := k) rfl sh3 (by first | assumption | repeat (first | exact gnew | exact gsetn gnew | assumption | exact gsetn (by assumption) | refine gpush ?_ | refine gset ?_ (by first | omega | (simp; omega)) )) (by simp) (by first | omega | (simp; omega))) ?_
      refine Wk.q rfl rfl rfl (Qk.move rfl) ?_
      refine Wk.q rfl rfl rfl (Qk.neg rfl (by omega)) ?_
      refine Wk.q rfl rfl rfl (Qk.min2 rfl rfl rfl) ?_
      refine Wk.q rfl rfl rfl (Qk.at1 rfl rfl ar29 sl29 (by constructor <;> omega)) ?_
      refine Wk.h rfl rfl rfl (Hk.int (i := k) rfl rfl sh3 (by first | assumption | repeat (first | exact gnew | exact gsetn gnew | assumption | exact gsetn (by assumption) | refine gpush ?_ | refine gset ?_ (by first | omega | (simp; omega)) )) (by first | omega | (simp; omega))) ?_
      refine Wk.next ?_
      refine Wc.store fun s4 e4 => ?_
      have ho5 : Old t2 s4 := by subst e4; exact hoa.gset (by omega)
      have hgx5 : s4.get t2.size = some ⟨ic (Γ.set k (if -((rowM (tab M.length (ldOf M b)) i).getD k 0) < Γ.getD k 0 then -((rowM (tab M.length (ldOf M b)) i).getD k 0) else Γ.getD k 0)), .rw⟩ := by subst e4; exact gsetn hgx
      refine Wc.thence (fun _ _ => rfl) ?_
      refine Wc.region ?_
      refine Wk.q rfl rfl rfl (Qk.add rfl rfl (by omega)) ?_
      refine Wk.q rfl rfl rfl (Qk.move rfl) ?_
      refine Wk.next ?_
      refine Wc.finish fun fr hf => ?_
      refine ⟨(k + 1, _, s4), ⟨hkl, ho5, by simpa using hΓ, hgx5, fun x hx => ?_⟩, by dsimp only; omega, rfl, hf.less ⟨rfl, rfl, rfl, rfl, rfl, rfl, rfl, rfl, rfl, rfl, trivial⟩⟩
      dsimp only
      rw [getD_set (by omega)]
      by_cases e : k = x
      · subst e
        rw [if_pos rfl, if_pos (Nat.lt_succ_self _), vk, hΓk]
        rfl
      · rw [if_neg e, hlw x hx]
        by_cases e2 : x < k
        · rw [if_pos e2, if_pos (by omega)]
        · rw [if_neg e2, if_neg (by omega)]
end Go.Proofs.Ytfgnjndicidpkaa
