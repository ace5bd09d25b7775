/- Leads: by how much the gain of an agent is at least greater than that of another one. -/
import Derived.Test.YtfgnjndicidpkaaSK2
namespace Go.Proofs.Ytfgnjndicidpkaa
open Go.Abs
variable {K : Known}

/-- The lead of i on k by an assignment. -/
noncomputable def ldOf (M : List (List Int)) (b : List Int) (i k : Nat) : Int := matM M i (asgOf b i) - matM M k (asgOf b k) + LK M (asgOf b i) (asgOf b k)
set_option maxHeartbeats 4000000 in
set_option maxRecDepth 100000 in
theorem c33 (hK : Late K) {M : List (List Int)} {v : Value} {rent : Int} {s : St} (hm : MRow s v M) (hB : Bids M) (hr : 0 ≤ rent ∧ rent ≤ 10000000) :
    Ev Try.prog K (.func (.func 33) #[] #[]) [.agg #[v, .int .i64 rent]] s fun r s' => ∃ b bv cb lv, r = .tuple #[bv, lv, .int .i64 0] ∧ OwnAt s' bv 1 b.length cb (ic b) ∧ s.size ≤ cb ∧ AsgL M.length b ∧ Opt M.length (matM M) (asgOf b) ∧ MRow s' lv (tab M.length (ldOf M b)) ∧ HasOpt M ∧ Old s s' := by
  have hm0 := hm
  obtain ⟨rv, hR, hrow⟩ := hm0
  refine Ev.enterK (hK.none (by decide) _) Try.func33 rfl rfl (Nat.le_of_ble_eq_true rfl) ?_
  refine Wc.tail ?_
  refine Wc.assoc ?_
  refine Wc.region ?_
  refine Wk.f rfl rfl rfl (Fk.box rfl rfl) ?_
  refine Wk.q rfl rfl rfl (Qk.assign rfl) ?_
  refine Wk.q rfl rfl rfl (Qk.assign rfl) ?_
  refine Wk.q rfl rfl rfl (Qk.assign rfl) ?_
  refine Wk.next ?_
  refine Wc.store fun s1 e1 => ?_
  have ho1 : Old s s1 := by subst e1; exact Old.push _ _
  have hg1 : s1.get s.size = some ⟨[v, .int .i64 rent], .rw⟩ := by subst e1; exact gnew
  refine Wc.assoc ?_
  refine Wc.region ?_
  refine Wk.r rfl rfl rfl (Rk.cells rfl sh24 (by first | assumption | repeat (first | exact gnew | exact gsetn gnew | assumption | exact gsetn (by assumption) | refine gpush ?_ | refine gset ?_ (by first | omega | (simp; omega)) )) (by simp) (by simp)) ?_
  refine Wk.c rfl rfl rfl (Ck.call rfl rfl) ((c10 hK (hm.old ho1) hB hr).mono ?_)
  rintro r t1 ⟨lv, rfl, hL1, hHO, ho2⟩
  have hLx := hL1
  obtain ⟨rvl, hLr1, _⟩ := hLx
  rw [tab_len] at hLr1
  obtain ⟨al, capl, hle, _⟩ := hLr1
  subst hle
  
  have hg2 := ho2.get hg1
  have ho12 := ho1.trans ho2
  refine Wk.q rfl rfl rfl (Qk.move rfl) ?_
  refine Wk.q rfl rfl rfl (Qk.extract rfl rfl) ?_
  refine Wk.q rfl rfl rfl (Qk.extract rfl rfl) ?_
  refine Wk.q rfl rfl rfl (Qk.assign rfl) ?_
  refine Wk.q rfl rfl rfl (Qk.assign rfl) ?_
  refine Wk.next ?_
  refine Wc.assoc ?_
  refine Wc.assoc ?_
  refine Wc.region ?_
  refine Wk.q rfl rfl rfl (Qk.move rfl) ?_
  refine Wk.b rfl rfl rfl (Qk.bin rfl rfl rfl) fun b h17 => ?_
  obtain rfl : b = false := by exact h17.symm -- t17
  refine Wk.next ?_
  refine Wc.condF rfl ?_
  refine Wc.skip ?_
  refine Wc.assoc ?_
  refine Wc.region ?_
  refine Wk.q rfl rfl rfl (Qk.fa rfl fd24_0) ?_
  refine Wk.r rfl rfl rfl (Rk.cell rfl sh22 (by first | assumption | repeat (first | exact gnew | exact gsetn gnew | assumption | exact gsetn (by assumption) | refine gpush ?_ | refine gset ?_ (by first | omega | (simp; omega)) )) (by simp) rfl) ?_
  refine Wk.c rfl rfl rfl (Ck.call rfl rfl) ((c8 hK hB (hm.old ho12)).mono ?_)
  rintro r2 t2 ⟨b, bv, cb, rfl, hown, hcb, hA, hO, ho3⟩
  have hown0 := hown
  obtain ⟨cap, md, cs, hbe, _⟩ := hown0
  subst hbe
  have hll := hA.len
  have hb := hown.irow
  have hm6 := hB.most
  have ho13 := ho12.trans ho3
  have hg3 := ho3.get hg2
  have hL := hL1.old ho3
  obtain ⟨rvl, hLr, hLrow⟩ := hL
  rw [tab_len] at hLr
  simp only [tab_len] at hLrow
  have hlt : ∀ x, x < M.length → asgOf b x < M.length := fun x hx => hA.asg.lt x hx
  have hnn : ∀ x, x < M.length → b.getD x 0 = (asgOf b x : Nat) := fun x hx => by have := hA.nonneg x hx; unfold asgOf; omega
  have hlen : ∀ k, k < M.length → (rowM (tab M.length (LK M)) k).length = M.length := fun k hk => by rw [tab_row hk]; simp
  refine Wk.q rfl rfl rfl (Qk.move rfl) ?_
  refine Wk.q rfl rfl rfl (Qk.extract rfl rfl) ?_
  refine Wk.q rfl rfl rfl (Qk.extract rfl rfl) ?_
  refine Wk.q rfl rfl rfl (Qk.extract rfl rfl) ?_
  refine Wk.q rfl rfl rfl (Qk.assign rfl) ?_
  refine Wk.next ?_
  refine Wc.assoc ?_
  refine Wc.assoc ?_
  refine Wc.region ?_
  refine Wk.q rfl rfl rfl (Qk.move rfl) ?_
  refine Wk.q rfl rfl rfl (Qk.lenR rfl rfl rfl hb sl29) ?_
  refine Wk.q rfl rfl rfl (Qk.move rfl) ?_
  refine Wk.next ?_
  refine Wc.block ?_
  refine Wc.loop (σ := Nat × Value × Option Nat × (Nat → Value) × (Nat → Nat) × St) (fun y => y.1 ≤ M.length ∧ Old t2 y.2.2.2.2.2 ∧ MGrew y.2.2.2.2.2 t2.size y.2.1 y.1 y.2.2.1 y.2.2.2.1 y.2.2.2.2.1 (fun j => lrow M.length (ldOf M b j)))
    (fun y => [(1, .pointer (some ⟨s.size, 0, none⟩)), (2, .slice (some ⟨cb, 0, none⟩) b.length cap), (3, y.2.1), (5, .slice al M.length capl), (26, .slice (some ⟨cb, 0, none⟩) b.length cap), (27, goInt b.length), (28, .int .i64 y.1)]) (fun y => y.2.2.2.2.2) (fun y => M.length - y.1) (0, .slice none 0 0, none, fun _ => undef, fun _ => 0, t2)
    ⟨Nat.zero_le _, Old.refl _, MGrew.nil⟩ ⟨rfl, rfl, rfl, rfl, rfl, rfl, rfl, trivial⟩ rfl ?_
  rintro ⟨i, ov, bo, rw', cw, sa⟩ ⟨hi, hoa, hmg⟩
  dsimp only at hi hoa hmg ⊢
  refine Wc.assoc ?_
  refine Wc.region ?_
  refine Wk.b rfl rfl rfl (Qk.bin rfl rfl rfl) fun b h29 => ?_
  cases b
  · -- t29 = False
    have hge : i = M.length := by
      have : ¬ ((i : Int) < (b.length : Int)) := of_decide_eq_false h29
      omega
    subst hge
    obtain ⟨bt, hmo⟩ := hmg.own hB.pos
    refine Wk.next ?_
    refine Wc.assoc ?_
    refine Wc.condF rfl ?_
    refine Wc.jump (fun _ _ => rfl) ?_
    refine Wc.assoc ?_
    refine Wc.region ?_
    refine Wk.q rfl rfl rfl (Qk.move rfl) ?_
    refine Wk.q rfl rfl rfl (Qk.move rfl) ?_
    refine Wk.q rfl rfl rfl (Qk.assign rfl) ?_
    refine Wk.q rfl rfl rfl (Qk.assign rfl) ?_
    refine Wk.q rfl rfl rfl (Qk.assign rfl) ?_
    refine Wk.next ?_
    refine Wc.done'' (fun _ _ => rfl) rfl ?_
    exact ⟨b, _, cb, ov, rfl, hown.old hoa, Nat.le_trans ho12.1 hcb, hA, hO, hmo.mrow, hHO, ho13.trans hoa⟩
  · -- t29 = True
    have hil : i < M.length := by
      have : (i : Int) < (b.length : Int) := of_decide_eq_true h29
      omega
    refine Wk.next ?_
    refine Wc.assoc ?_
    refine Wc.condT rfl ?_
    refine Wc.skip ?_
    refine Wc.assoc ?_
    refine Wc.block ?_
    refine Wc.assoc ?_
    refine Wc.region ?_
    refine Wk.q rfl rfl rfl (Qk.move rfl) ?_
    refine Wk.q rfl rfl rfl (Qk.at rfl rfl ar29 sl29 (hb.old (by assumption)) (by constructor <;> omega)) ?_
    refine Wk.r rfl rfl rfl (Rk.intR rfl sh3 (hb.old (by assumption)) (i := i) (by omega)) ?_
    refine Wk.q rfl rfl rfl (Qk.assign rfl) ?_
    refine Wk.q rfl rfl rfl (Qk.assign rfl) ?_
    refine Wk.next ?_
    refine Wc.assoc ?_
    refine Wc.region ?_
    refine Wk.q rfl rfl rfl (Qk.assign rfl) ?_
    refine Wk.next ?_
    refine Wc.assoc ?_
    refine Wc.assoc ?_
    refine Wc.region ?_
    refine Wk.q rfl rfl rfl (Qk.move rfl) ?_
    refine Wk.q rfl rfl rfl (Qk.lenR rfl rfl rfl hb sl29) ?_
    refine Wk.q rfl rfl rfl (Qk.move rfl) ?_
    refine Wk.next ?_
    refine Wc.block ?_
    refine Wc.loop (σ := Nat × Value × Option Nat × St) (fun y => y.1 ≤ M.length ∧ Old sa y.2.2.2 ∧ Grew y.2.2.2 sa.size y.2.1 1 y.1 (ic (lrow y.1 (ldOf M b i))) y.2.2.1)
      (fun y => [(1, .pointer (some ⟨s.size, 0, none⟩)), (2, .slice (some ⟨cb, 0, none⟩) b.length cap), (3, ov), (5, .slice al M.length capl), (6, .int .i64 i), (7, .int .i64 (b.getD i 0)), (8, y.2.1), (26, .slice (some ⟨cb, 0, none⟩) b.length cap), (27, goInt b.length), (28, .int .i64 i), (33, .slice (some ⟨cb, 0, none⟩) b.length cap), (34, goInt b.length), (35, .int .i64 y.1)]) (fun y => y.2.2.2) (fun y => M.length - y.1) (0, .slice none 0 0, none, sa)
      ⟨Nat.zero_le _, Old.refl _, Grew.nil⟩ ⟨rfl, rfl, rfl, rfl, rfl, rfl, rfl, rfl, rfl, rfl, rfl, rfl, rfl, trivial⟩ rfl ?_
    rintro ⟨k, rowv, bo2, sb⟩ ⟨hk, hosb, hgr⟩
    dsimp only at hk hosb hgr ⊢
    have hob : Old t2 sb := hoa.trans hosb
    refine Wc.assoc ?_
    refine Wc.region ?_
    refine Wk.b rfl rfl rfl (Qk.bin rfl rfl rfl) fun b h36 => ?_
    cases b
    · -- t36 = False
      have hge : k = M.length := by
        have : ¬ ((k : Int) < (b.length : Int)) := of_decide_eq_false h36
        omega
      subst hge
      obtain ⟨cn, rfl, hcn, hrown⟩ : ∃ c, bo2 = some c ∧ sa.size ≤ c ∧ OwnAt sb rowv 1 M.length c (ic (lrow M.length (ldOf M b i))) := by
        rcases hgr with ⟨_, _, h, _⟩ | ⟨c, h1, h2, h3⟩
        · omega
        · exact ⟨c, h1, h2, h3⟩
      have hrown0 := hrown
      obtain ⟨capr, mdr, csr, hre, _⟩ := hrown0
      subst hre
      refine Wk.next ?_
      refine Wc.assoc ?_
      refine Wc.condF rfl ?_
      refine Wc.jump (fun _ _ => rfl) ?_
      refine Wc.region ?_
      refine Wk.q rfl rfl rfl (Qk.move rfl) ?_
      refine Wk.q rfl rfl rfl (Qk.move rfl) ?_
      refine Wk.f rfl rfl rfl (Fk.one rfl rfl sl22 ze29 rfl rfl rfl (by decide)) ?_
      refine Wk.store' fun s2 e2 => ?_
      have ho3' : Old sb s2 := by subst e2; exact Old.push _ _
      have hg3' : s2.get sb.size = some ⟨[.slice (some ⟨cn, 0, none⟩) M.length capr], .rw⟩ := by subst e2; exact gnew
      have hmg3 := (hmg.old hosb).old ho3'
      have hrown3 := hrown.old ho3'
      obtain ⟨ov', t5, b5, hap, hgr5, hb5, hsame5⟩ := append_val ap22 hmg3.top (by have := hoa.1; have := hosb.1; have := ho3'.1; omega) hg3' (by simp) rfl (by have := hB.most; omega)
      refine Wk.h rfl rfl rfl (Hk.append rfl rfl rfl rfl (by first | exact hap | assumption)) ?_
      refine Wk.q rfl rfl rfl (Qk.assign rfl) ?_
      refine Wk.next ?_
      refine Wc.store fun s3 e3 => ?_
      subst e3
      have hmg5 := hmg3.snoc hgr5 hb5 hsame5 hrown3 (lrow_len _).symm (by have := hoa.1; omega) (fun i hi => by have h1 := (hmg.rows i hi).lt; omega) (by intro c hc hcc; cases hcc; have := hmg.top.lt' hc; omega) (by intro e; have := hrown.lt; have := ho3'.1; omega)
      refine Wc.thence (fun _ _ => rfl) ?_
      refine Wc.region ?_
      refine Wk.q rfl rfl rfl (Qk.add rfl rfl (by omega)) ?_
      refine Wk.q rfl rfl rfl (Qk.move rfl) ?_
      refine Wk.next ?_
      refine Wc.finish fun fr hf => ?_
      refine ⟨(i + 1, ov', some b5, _, _, s3), ⟨hil, Same.older (hoa.trans (hosb.trans ho3')) hsame5 (by intro x hx; cases bo with | none => simp at hx | some d => simp at hx; subst hx; exact hmg.top.ge rfl), hmg5⟩, by dsimp only; omega, rfl, hf.less ⟨rfl, rfl, rfl, rfl, rfl, rfl, rfl, trivial⟩⟩
    · -- t36 = True
      have hkl : k < M.length := by
        have : (k : Int) < (b.length : Int) := of_decide_eq_true h36
        omega
      have hai := hlt i hil
      have hak := hlt k hkl
      have hni := hnn i hil
      have hnk := hnn k hkl
      have hlLi := hlen (asgOf b i) hai
      refine Wk.next ?_
      refine Wc.assoc ?_
      refine Wc.condT rfl ?_
      refine Wc.skip ?_
      refine Wc.assoc ?_
      refine Wc.block ?_
      refine Wc.assoc ?_
      refine Wc.region ?_
      refine Wk.q rfl rfl rfl (Qk.move rfl) ?_
      refine Wk.q rfl rfl rfl (Qk.at rfl rfl ar29 sl29 (hb.old (by assumption)) (by constructor <;> omega)) ?_
      refine Wk.r rfl rfl rfl (Rk.intR rfl sh3 (hb.old (by assumption)) (i := k) (by omega)) ?_
      refine Wk.q rfl rfl rfl (Qk.assign rfl) ?_
      refine Wk.q rfl rfl rfl (Qk.assign rfl) ?_
      refine Wk.next ?_
      refine Wc.draw ?_
      refine Wd.store' fun s4 e4 => ?_
      have ho5 : Old sb s4 := by subst e4; exact Old.reserve _ _
      have hob4 : Old t2 s4 := hob.trans ho5
      have hgb5 : s4.get s.size = some ⟨[v, .int .i64 rent], .rw⟩ := hob4.get hg3
      have hd5 : s4.get (sb.size + 26) = some ⟨[], .dead⟩ := by subst e4; exact gnone (by decide)
      have hos5 : Old s s4 := (ho13.trans hob).trans ho5
      have hrwi : IRow s4 (rv i) (rowM M i) := (hrow i hil).old hos5
      have hrwk : IRow s4 (rv k) (rowM M k) := (hrow k hkl).old hos5
      have hLi : IRow s4 (rvl (asgOf b i)) (rowM (tab M.length (LK M)) (asgOf b i)) := (hLrow _ hai).old hob4
      have hsqi := hB.square i hil
      have hsqk := hB.square k hkl
      have hr1 := hB.range i (asgOf b i) hil hai
      have hr2 := hB.range k (asgOf b k) hkl hak
      have hr1' : 0 ≤ (rowM M i).getD (asgOf b i) 0 ∧ (rowM M i).getD (asgOf b i) 0 ≤ 1000000 := hr1
      have hr2' : 0 ≤ (rowM M k).getD (asgOf b k) 0 ∧ (rowM M k).getD (asgOf b k) 0 ≤ 1000000 := hr2
      have vL : (rowM (tab M.length (LK M)) (asgOf b i)).getD (asgOf b k) 0 = LK M (asgOf b i) (asgOf b k) := tab_mat hai hak
      have bL := LK_bd hB hHO hai hak
      refine Wd.q rfl rfl rfl (Qk.move rfl) ?_
      refine Wd.q rfl rfl rfl (Qk.fa rfl fd24_0) ?_
      refine Wd.r rfl rfl rfl (Rk.cell rfl sh22 (by first | assumption | repeat (first | exact gnew | exact gsetn gnew | assumption | exact gsetn (by assumption) | refine gpush ?_ | refine gset ?_ (by first | omega | (simp; omega)) )) (by simp) rfl) (by kernel_rfl) ?_
      refine Wd.q rfl rfl rfl (Qk.move rfl) ?_
      refine Wd.q rfl rfl rfl (Qk.at rfl rfl ar22 sl22 (hR.old (by assumption)) (by constructor <;> omega)) ?_
      refine Wd.r rfl rfl rfl (Rk.atS rfl sh29 (hR.old (by assumption)) (i := i) (by omega) rfl) (by kernel_rfl) ?_
      refine Wd.q rfl rfl rfl (Qk.move rfl) ?_
      refine Wd.q rfl rfl rfl (Qk.at rfl rfl ar29 sl29 hrwi (by constructor <;> omega)) ?_
      refine Wd.r rfl rfl rfl (Rk.intR rfl sh3 hrwi (i := (asgOf b i)) (by omega)) (by kernel_rfl) ?_
      refine Wd.q rfl rfl rfl (Qk.fa rfl fd24_0) ?_
      refine Wd.r rfl rfl rfl (Rk.cell rfl sh22 (by first | assumption | repeat (first | exact gnew | exact gsetn gnew | assumption | exact gsetn (by assumption) | refine gpush ?_ | refine gset ?_ (by first | omega | (simp; omega)) )) (by simp) rfl) (by kernel_rfl) ?_
      refine Wd.q rfl rfl rfl (Qk.move rfl) ?_
      refine Wd.q rfl rfl rfl (Qk.at rfl rfl ar22 sl22 (hR.old (by assumption)) (by constructor <;> omega)) ?_
      refine Wd.r rfl rfl rfl (Rk.atS rfl sh29 (hR.old (by assumption)) (i := k) (by omega) rfl) (by kernel_rfl) ?_
      refine Wd.q rfl rfl rfl (Qk.move rfl) ?_
      refine Wd.q rfl rfl rfl (Qk.at rfl rfl ar29 sl29 hrwk (by constructor <;> omega)) ?_
      refine Wd.r rfl rfl rfl (Rk.intR rfl sh3 hrwk (i := (asgOf b k)) (by omega)) (by kernel_rfl) ?_
      refine Wd.q rfl rfl rfl (Qk.sub rfl rfl (by omega)) ?_
      refine Wd.q rfl rfl rfl (Qk.move rfl) ?_
      refine Wd.q rfl rfl rfl (Qk.move rfl) ?_
      refine Wd.q rfl rfl rfl (Qk.at rfl rfl ar22 sl22 (hLr.old (by assumption)) (by constructor <;> omega)) ?_
      refine Wd.r rfl rfl rfl (Rk.atS rfl sh29 (hLr.old (by assumption)) (i := (asgOf b i)) (by omega) rfl) (by kernel_rfl) ?_
      refine Wd.q rfl rfl rfl (Qk.move rfl) ?_
      refine Wd.q rfl rfl rfl (Qk.at rfl rfl ar29 sl29 hLi (by constructor <;> omega)) ?_
      refine Wd.r rfl rfl rfl (Rk.intR rfl sh3 hLi (i := (asgOf b k)) (by omega)) (by kernel_rfl) ?_
      refine Wd.q rfl rfl rfl (Qk.add rfl rfl (by omega)) ?_
      refine Wd.f rfl rfl rfl (Fk.one rfl rfl sl29 ze3 rfl rfl rfl (by decide)) ?_
      refine Wd.store' fun s5 e5 => ?_
      have ho6 : Old sb s5 := by subst e5; exact (ho5.same []).old.gset (by omega)
      have hone : IRow s5 (.slice (some ⟨sb.size + 26, 0, none⟩) 1 1) [(rowM M i).getD (asgOf b i) 0 - (rowM M k).getD (asgOf b k) 0 + (rowM (tab M.length (LK M)) (asgOf b i)).getD (asgOf b k) 0] := by subst e5; exact IRow.of_get (l := [(rowM M i).getD (asgOf b i) 0 - (rowM M k).getD (asgOf b k) 0 + (rowM (tab M.length (LK M)) (asgOf b i)).getD (asgOf b k) 0]) (gsetn hd5) (by simp) (Nat.le_refl _)
      obtain ⟨rv', t7, bo7, hap, hgr7, hb7, hsame7⟩ := append_ints ap29 (hgr.same (ho6.same []) (by simp)) (by have := hosb.1; have := ho6.1; omega) hone (by have := hB.most; simp; omega)
      refine Wd.h rfl rfl rfl (Hk.append rfl rfl rfl rfl (by first | exact hap | assumption)) (by kernel_rfl) (by kernel_rfl) ?_
      refine Wd.q rfl rfl rfl (Qk.assign rfl) ?_
      refine Wd.next ?_
      refine Wc.store fun s6 e6 => ?_
      subst e6
      refine Wc.thence (fun _ _ => rfl) ?_
      refine Wc.region ?_
      refine Wk.q rfl rfl rfl (Qk.add rfl rfl (by omega)) ?_
      refine Wk.q rfl rfl rfl (Qk.move rfl) ?_
      refine Wk.next ?_
      refine Wc.finish fun fr hf => ?_
      refine ⟨(k + 1, rv', bo7, s6), ⟨hkl, Same.older (hosb.trans ho6) hsame7 (by intro x hx; cases bo2 with | none => simp at hx | some d => simp at hx; subst hx; exact hgr.ge rfl), ?_⟩, by dsimp only; omega, rfl, hf.less ⟨rfl, rfl, rfl, rfl, rfl, rfl, rfl, rfl, rfl, rfl, rfl, rfl, rfl, trivial⟩⟩
      have e : ic (lrow (k + 1) (ldOf M b i)) = ic (lrow k (ldOf M b i)) ++ ic [(rowM M i).getD (asgOf b i) 0 - (rowM M k).getD (asgOf b k) 0 + (rowM (tab M.length (LK M)) (asgOf b i)).getD (asgOf b k) 0] := by
        rw [lrow_succ, vL]
        simp [ic, ldOf, matM]
      dsimp only
      rw [e]
      exact hgr7
end Go.Proofs.Ytfgnjndicidpkaa
