/- As much as can be moved: (*flow.work).push. -/
import Derived.Test.YtgkmpidihgbkdaaJI
namespace Go.Proofs.Ytgkmpidihgbkdaa
open Go.Abs
variable {K : Known}

theorem Same.trans' {M M' : List Nat} {a b c : St} (h : Same M a b) (k : Same M' b c) (hm : ∀ x ∈ M', x ∈ M ∨ a.size ≤ x) : Same M a c := ⟨Nat.le_trans h.1 k.1, fun x hx hn => (k.2.1 x (Nat.lt_of_lt_of_le hx h.1) (fun hx' => (hm x hx').elim hn (fun h' => by omega))).trans (h.2.1 x hx hn), k.2.2.trans h.2.2⟩

theorem Qk.half {P : Program} {n : Nat} {k : Kn} {t t' : TypeId} {x y : Operand} {a : Int} (hx : kev k x = some (.int .i64 a)) (hy : kev k y = some (.int .i64 2)) (hr : 0 ≤ a ∧ a ≤ 9223372036854775807) : Qk P n k (.binOp .quo t x y t') (.int .i64 (a / 2)) :=
  Qk.bin hx hy (by
    have e : a.tdiv 2 = a / 2 := Int.tdiv_eq_ediv_of_nonneg hr.1
    simp only [abin, aint, if_true]
    rw [if_neg (by decide), e, IntWalk.i64_in _ (by omega)])

def wc (N : Int) (v : Value) (l : List Arc) (bf : Nat) (sv : Value) (k : Nat) (d : Int) : List Value := [.int .i64 N, v, .slice (some ⟨bf, 0, none⟩) l.length l.length, sv, .int .i64 k, .int .i64 d]

def PushOk (l : List Arc) (k : Nat) (xs : List Int) (u0 t0 mo sum : Int) (xs' : List Int) : Prop :=
  0 ≤ sum ∧ sum ≤ mo ∧ Moved l k xs (fun _ => false) u0 t0 sum xs' ∧ (sum = mo ∨ ∃ S : Int → Bool, S u0 = true ∧ S t0 = false ∧ Closed l (am xs') k 1 S)

theorem Moved.refl {l : List Arc} {k : Nat} {xs : List Int} {u0 t0 : Int} (hr : inRange l (am xs)) : Moved l k xs (fun _ => false) u0 t0 0 xs := ⟨rfl, hr, fun _ _ => rfl, fun _ _ _ => rfl, fun v => by split <;> split <;> omega⟩
theorem Moved.then {l : List Arc} {k : Nat} {xs xs1 xs2 : List Int} {S : Int → Bool} {u0 t0 x y : Int} (h : Moved l k xs (fun _ => false) u0 t0 x xs1) (h2 : Moved l k xs1 S u0 t0 y xs2) : Moved l k xs (fun _ => false) u0 t0 (x + y) xs2 :=
  ⟨h2.len.trans h.len, h2.range, fun j hj => (h2.skip j hj).trans (h.skip j hj), fun j hj e => by simp at e, fun v => by rw [h2.bal, h.bal]; split <;> split <;> omega⟩

theorem Searched.closed {N : Int} {l : List Arc} {x : Nat → Int} {k : Nat} {d : Int} {seen seen' : List Bool} {fr to : Int} (hok : NetOk N l) (h : Searched N l x k d seen fr to seen') (he : ∀ u, inB seen u = false) : Closed l x k d (inB seen') := fun i hk hi => by
  obtain ⟨a1, a2, a3, a4, _⟩ := hok.arc i hi
  exact ⟨fun e1 e2 => (h.shut _ a1 a2 e1 (he _) i hk hi hi).1 rfl e2, fun e1 e2 => (h.shut _ a3 a4 e1 (he _) i hk hi hi).2 rfl e2⟩

set_option maxRecDepth 100000 in
theorem c44 (hK : Late K) {v : Value} {N : Int} {l : List Arc} {sb : St} (hok : NetOk N l) (hv : ARow sb v l) {bw bf k : Nat} {sv : Value} {d0 : Int} {xs : List Int} {u0 t0 mo : Int} {s : St} (hb1 : bw ≠ bf) (hb4 : sb.size ≤ bf) (hb5 : sb.size ≤ bw) (hk : k ≤ l.length)
    (ho : Old sb s) (hW : s.get bw = some ⟨wc N v l bf sv k d0, .rw⟩) (hF : s.get bf = some ⟨ic xs, .rw⟩) (hxl : xs.length = l.length) (hr : inRange l (am xs)) (hu : 0 ≤ u0 ∧ u0 < N) (ht : 0 ≤ t0 ∧ t0 < N) (hmo : 0 ≤ mo ∧ mo ≤ 200000000) :
    Ev Try.prog K (.func (.func 44) #[] #[]) [.pointer (some ⟨bw, 0, none⟩), .int .i64 u0, .int .i64 t0, .int .i64 mo] s fun r s' => ∃ sum xs' sv' d', r = .int .i64 sum ∧ Same [bw, bf] s s' ∧ s'.get bw = some ⟨wc N v l bf sv' k d', .rw⟩ ∧ s'.get bf = some ⟨ic xs', .rw⟩ ∧ PushOk l k xs u0 t0 mo sum xs' := by
  have hN1 := hok.most
  have hN2 := hok.two
  have hll := hok.len
  refine Ev.enterK (hK.none (by decide) _) Try.func44 rfl rfl (Nat.le_of_ble_eq_true rfl) ?_
  refine Wc.tail ?_
  refine Wc.assoc ?_
  refine Wc.region ?_
  refine Wk.q rfl rfl rfl (Qk.assign rfl) ?_
  refine Wk.next ?_
  refine Wc.assoc ?_
  refine Wc.region ?_
  refine Wk.q rfl rfl rfl (Qk.assign rfl) ?_
  refine Wk.next ?_
  refine Wc.assoc ?_
  refine Wc.region ?_
  refine Wk.q rfl rfl rfl (Qk.move rfl) ?_
  refine Wk.q rfl rfl rfl (Qk.nilCheck rfl rfl) ?_
  refine Wk.q rfl rfl rfl (Qk.fa rfl fd83_4) ?_
  refine Wk.h rfl rfl rfl (Hk.cell rfl rfl sh3 (by first | assumption | repeat (first | exact gnew | exact gsetn gnew | assumption | refine gpush ?_ | refine gset ?_ (by simp; omega) )) (by first | exact Nat.le_of_ble_eq_true rfl | simp) rfl rfl) ?_
  refine Wk.next ?_
  refine Wc.store fun s1 e1 => ?_
  have ho1 : Old sb s1 := by subst e1; exact ho.gset (by omega)
  have hm1 : Same [bw, bf] s s1 := by subst e1; exact (Same.refl _ _).set (.inr (by simp))
  have hW1 : s1.get bw = some ⟨wc N v l bf sv k 1048576, .rw⟩ := by subst e1; exact gsetn hW
  have hF1 : s1.get bf = some ⟨ic xs, .rw⟩ := by subst e1; exact gset hF (by omega)
  clear e1
  refine Wc.assoc ?_
  refine Wc.block ?_
  refine Wc.loop (σ := Int × List Int × Value × Int × St) (fun y => Old sb y.2.2.2.2 ∧ Same [bw, bf] s y.2.2.2.2 ∧ y.2.2.2.2.get bw = some ⟨wc N v l bf y.2.2.1 k y.2.2.2.1, .rw⟩ ∧ y.2.2.2.2.get bf = some ⟨ic y.2.1, .rw⟩ ∧ 0 ≤ y.1 ∧ y.1 ≤ mo ∧ 0 ≤ y.2.2.2.1 ∧ y.2.2.2.1 ≤ 1048576 ∧ Moved l k xs (fun _ => false) u0 t0 y.1 y.2.1 ∧ (y.2.2.2.1 = 0 → ∃ S : Int → Bool, S u0 = true ∧ S t0 = false ∧ Closed l (am y.2.1) k 1 S))
    (fun y => [(0, .pointer (some ⟨bw, 0, none⟩)), (1, .int .i64 u0), (2, .int .i64 t0), (3, .int .i64 mo), (9, .int .i64 y.1)]) (fun y => y.2.2.2.2) (fun y => y.2.2.2.1.toNat * 300000000 + (mo - y.1).toNat) (0, xs, sv, 1048576, s1)
    ⟨ho1, hm1, hW1, hF1, Int.le_refl _, hmo.1, by dsimp only; omega, by dsimp only; omega, Moved.refl hr, fun e => (by cases e)⟩ ⟨rfl, rfl, rfl, rfl, rfl, trivial⟩ rfl ?_
  clear ho1 hm1 hW1 hF1
  rintro ⟨sum, xs1, sv1, d, sa⟩ ⟨ho1, hm1, hW1, hF1, hs0, hsm, hd0, hd1, hmv, hcl⟩
  dsimp only at ho1 hm1 hW1 hF1 hs0 hsm hd0 hd1 hmv hcl ⊢
  refine Wc.assoc ?_
  refine Wc.assoc ?_
  refine Wc.region ?_
  refine Wk.q rfl rfl rfl (Qk.move rfl) ?_
  refine Wk.q rfl rfl rfl (Qk.move rfl) ?_
  refine Wk.b rfl rfl rfl (Qk.bin rfl rfl rfl) fun b h16 => ?_
  cases b
  · -- t16 = False
    refine Wk.q rfl rfl rfl (Qk.move rfl) ?_
    refine Wk.no rfl rfl rfl ?_
    refine Wk.no rfl rfl rfl ?_
    refine Wk.no rfl rfl rfl ?_
    refine Wk.no rfl rfl rfl ?_
    refine Wk.no rfl rfl rfl ?_
    refine Wk.q rfl rfl rfl (Qk.pickF rfl rfl) ?_
    refine Wk.next ?_
    refine Wc.condF rfl ?_
    refine Wc.jump (fun _ _ => rfl) ?_
    refine Wc.assoc ?_
    refine Wc.region ?_
    refine Wk.q rfl rfl rfl (Qk.move rfl) ?_
    refine Wk.q rfl rfl rfl (Qk.assign rfl) ?_
    refine Wk.next ?_
    refine Wc.done'' (fun _ _ => rfl) rfl ?_
    have : ¬ sum < mo := of_decide_eq_false h16
    exact ⟨sum, xs1, sv1, d, rfl, hm1, hW1, hF1, hs0, hsm, hmv, .inl (by omega)⟩
  · -- t16 = True
    have hlt : sum < mo := of_decide_eq_true h16
    refine Wk.q rfl rfl rfl (Qk.move rfl) ?_
    refine Wk.q rfl rfl rfl (Qk.move rfl) ?_
    refine Wk.q rfl rfl rfl (Qk.nilCheck rfl rfl) ?_
    refine Wk.q rfl rfl rfl (Qk.fa rfl fd83_4) ?_
    refine Wk.r rfl rfl rfl (Rk.cell rfl sh3 (by first | assumption | repeat (first | exact gnew | exact gsetn gnew | assumption | refine gpush ?_ | refine gset ?_ (by simp; omega) )) (by simp) rfl) ?_
    refine Wk.b rfl rfl rfl (Qk.bin rfl rfl rfl) fun b h22 => ?_
    cases b
    · -- t22 = False
      refine Wk.q rfl rfl rfl (Qk.pickT rfl rfl) ?_
      refine Wk.next ?_
      refine Wc.condF rfl ?_
      refine Wc.jump (fun _ _ => rfl) ?_
      refine Wc.assoc ?_
      refine Wc.region ?_
      refine Wk.q rfl rfl rfl (Qk.move rfl) ?_
      refine Wk.q rfl rfl rfl (Qk.assign rfl) ?_
      refine Wk.next ?_
      refine Wc.done'' (fun _ _ => rfl) rfl ?_
      have : ¬ d > 0 := of_decide_eq_false h22
      exact ⟨sum, xs1, sv1, d, rfl, hm1, hW1, hF1, hs0, hsm, hmv, .inr (hcl (by omega))⟩
    · -- t22 = True
      have hdp : d > 0 := of_decide_eq_true h22
      refine Wk.q rfl rfl rfl (Qk.pickT rfl rfl) ?_
      refine Wk.next ?_
      refine Wc.condT rfl ?_
      refine Wc.skip ?_
      refine Wc.block ?_
      refine Wc.assoc ?_
      refine Wc.region ?_
      refine Wk.q rfl rfl rfl (Qk.move rfl) ?_
      refine Wk.q rfl rfl rfl (Qk.move rfl) ?_
      refine Wk.q rfl rfl rfl (Qk.nilCheck rfl rfl) ?_
      refine Wk.q rfl rfl rfl (Qk.fa rfl fd83_0) ?_
      refine Wk.q rfl rfl rfl (Qk.fa rfl fd24_0) ?_
      refine Wk.r rfl rfl rfl (Rk.cell rfl sh3 (by first | assumption | repeat (first | exact gnew | exact gsetn gnew | assumption | refine gpush ?_ | refine gset ?_ (by simp; omega) )) (by simp) rfl) ?_
      refine Wk.f rfl rfl rfl (Fk.bools rfl rfl sl31 ze4 (by omega)) ?_
      refine Wk.q rfl rfl rfl (Qk.nilCheck rfl rfl) ?_
      refine Wk.q rfl rfl rfl (Qk.fa rfl fd83_2) ?_
      refine Wk.h rfl rfl rfl (Hk.cell rfl rfl sh31 (by first | assumption | repeat (first | exact gnew | exact gsetn gnew | assumption | refine gpush ?_ | refine gset ?_ (by simp; omega) )) (by first | exact Nat.le_of_ble_eq_true rfl | simp) rfl rfl) ?_
      refine Wk.next ?_
      refine Wc.store fun s2 e2 => ?_
      have hlw := St.get_lt hW1
      have hlf := St.get_lt hF1
      have hbs : sb.size ≤ sa.size := ho1.1
      have ho2 : Old sb s2 := by subst e2; exact (ho1.gpush _).gset (by omega)
      have hm2 : Same [bw, bf] s s2 := by subst e2; exact (hm1.push _).set (.inr (by simp))
      have hW2 : s2.get bw = some ⟨wcells N v l bf sa.size k d, .rw⟩ := by subst e2; exact gsetn (gpush hW1)
      have hF2 : s2.get bf = some ⟨ic xs1, .rw⟩ := by subst e2; exact gset (gpush hF1) (by omega)
      have hS2 : s2.get sa.size = some ⟨bc (List.replicate N.toNat false), .rw⟩ := by subst e2; exact gset gnew (by omega)
      have hsz2 : s.size ≤ sa.size := hm1.1
      clear e2
      have hno : ∀ u, inB (List.replicate N.toNat false) u = false := fun u => by simp only [inB, List.getD, List.getElem?_replicate]; split <;> rfl
      refine Wc.assoc ?_
      refine Wc.region ?_
      refine Wk.q rfl rfl rfl (Qk.move rfl) ?_
      refine Wk.q rfl rfl rfl (Qk.move rfl) ?_
      refine Wk.q rfl rfl rfl (Qk.move rfl) ?_
      refine Wk.q rfl rfl rfl (Qk.move rfl) ?_
      refine Wk.q rfl rfl rfl (Qk.move rfl) ?_
      refine Wk.q rfl rfl rfl (Qk.sub rfl rfl (by omega)) ?_
      refine Wk.c rfl rfl rfl (Ck.call rfl rfl) ((c56 hK hok hv (by omega) (by omega) (by omega) hb4 hbs hk (by omega) _ _ _ u0 t0 _ _ (Nat.lt_succ_self _) ho2 hW2 hF2 hS2 (hmv.len.trans hxl) hmv.range (by simp) hu ht (hno _) (hno _) ⟨by omega, by omega⟩).mono ?_)
      rintro _ sc ⟨x, xs2, seen2, rfl, hmc, hFc, hSc, hslc, hway⟩
      have hoc : Old sb sc := Same.older ho2 hmc (by simp; omega)
      have hWc := hmc.get hW2 (by simp; omega)
      have hmx : Same [bw, bf] s sc := hm2.trans' hmc (by simp; omega)
      have hx0 : 0 ≤ x ∧ x ≤ mo - sum := by rcases hway with h1 | h1 <;> omega
      have hmv2 : Moved l k xs (fun _ => false) u0 t0 (sum + x) xs2 := by
        rcases hway with ⟨_, _, h1⟩ | ⟨h1, rfl, _⟩
        · exact hmv.then h1
        · rw [h1, Int.add_zero]; exact hmv
      refine Wk.q rfl rfl rfl (Qk.assign rfl) ?_
      refine Wk.next ?_
      refine Wc.assoc ?_
      refine Wc.assoc ?_
      refine Wc.region ?_
      refine Wk.q rfl rfl rfl (Qk.move rfl) ?_
      refine Wk.b rfl rfl rfl (Qk.bin rfl rfl rfl) fun b h41 => ?_
      cases b
      · -- t41 = False
        refine Wk.next ?_
        refine Wc.condF rfl ?_
        refine Wc.skip ?_
        refine Wc.region ?_
        refine Wk.q rfl rfl rfl (Qk.move rfl) ?_
        refine Wk.q rfl rfl rfl (Qk.move rfl) ?_
        refine Wk.q rfl rfl rfl (Qk.add rfl rfl (by omega)) ?_
        refine Wk.q rfl rfl rfl (Qk.assign rfl) ?_
        refine Wk.next ?_
        refine Wc.thence (fun _ _ => rfl) ?_
        refine Wc.finish fun fr hf => ?_
        have hx1 : x ≠ 0 := ne_of_beq_false h41
        exact ⟨(sum + x, xs2, .slice (some ⟨sa.size, 0, none⟩) N.toNat N.toNat, d, sc), ⟨hoc, hmx, hWc, hFc, by dsimp only; omega, by dsimp only; omega, hd0, hd1, hmv2, fun e => (by dsimp only at e; omega)⟩, by dsimp only; omega, rfl, hf.less ⟨rfl, rfl, rfl, rfl, rfl, trivial⟩⟩
      · -- t41 = True
        have hx1 : x = 0 := eq_of_beq h41
        refine Wk.next ?_
        refine Wc.condT rfl ?_
        refine Wc.region ?_
        refine Wk.q rfl rfl rfl (Qk.move rfl) ?_
        refine Wk.q rfl rfl rfl (Qk.nilCheck rfl rfl) ?_
        refine Wk.q rfl rfl rfl (Qk.fa rfl fd83_4) ?_
        refine Wk.r rfl rfl rfl (Rk.cell rfl sh3 (by first | assumption | repeat (first | exact gnew | exact gsetn gnew | assumption | refine gpush ?_ | refine gset ?_ (by simp; omega) )) (by simp) rfl) ?_
        refine Wk.q rfl rfl rfl (Qk.half rfl rfl (by omega)) ?_
        refine Wk.q rfl rfl rfl (Qk.nilCheck rfl rfl) ?_
        refine Wk.q rfl rfl rfl (Qk.fa rfl fd83_4) ?_
        refine Wk.h rfl rfl rfl (Hk.cell rfl rfl sh3 (by first | assumption | repeat (first | exact gnew | exact gsetn gnew | assumption | refine gpush ?_ | refine gset ?_ (by simp; omega) )) (by first | exact Nat.le_of_ble_eq_true rfl | simp) rfl rfl) ?_
        refine Wk.next ?_
        refine Wc.store fun s3 e3 => ?_
        have hW3 : s3.get bw = some ⟨wc N v l bf (.slice (some ⟨sa.size, 0, none⟩) N.toNat N.toNat) k (d / 2), .rw⟩ := by subst e3; exact gsetn hWc
        refine Wc.region ?_
        refine Wk.q rfl rfl rfl (Qk.move rfl) ?_
        refine Wk.q rfl rfl rfl (Qk.move rfl) ?_
        refine Wk.q rfl rfl rfl (Qk.add rfl rfl (by omega)) ?_
        refine Wk.q rfl rfl rfl (Qk.assign rfl) ?_
        refine Wk.next ?_
        refine Wc.thence (fun _ _ => rfl) ?_
        refine Wc.finish fun fr hf => ?_
        subst e3
        refine ⟨(sum + x, xs2, .slice (some ⟨sa.size, 0, none⟩) N.toNat N.toNat, d / 2, _), ⟨hoc.gset (by omega), hmx.set (.inr (by simp)), hW3, gset hFc (by omega), by dsimp only; omega, by dsimp only; omega, by dsimp only; omega, by dsimp only; omega, hmv2, fun e => ?_⟩, by dsimp only; omega, rfl, hf.less ⟨rfl, rfl, rfl, rfl, rfl, trivial⟩⟩
        dsimp only at e
        obtain rfl : d = 1 := by omega
        rcases hway with ⟨h1, _⟩ | ⟨_, rfl, hse⟩
        · omega
        · exact ⟨_, hse.inFr, hse.outTo, hse.closed hok hno⟩

end Go.Proofs.Ytgkmpidihgbkdaa
