/- Numbers in another order. -/
import Derived.Test.YtfgnjndicidpkaaSU
import Derived.Test.YtfgnjndicidpkaaR6
namespace Go.Proofs.Ytfgnjndicidpkaa
open Go.Abs Go.IntWalk
variable {K : Known}
def irange (n : Nat) : List Int := (List.range n).map fun (i : Nat) => (i : Int)
theorem irange_len (n : Nat) : (irange n).length = n := by simp [irange]
theorem irange_succ (n : Nat) : irange (n + 1) = irange n ++ [(n : Int)] := by simp [irange, List.range_succ]
theorem irange_mem {n : Nat} {x : Int} : x ∈ irange n ↔ 0 ≤ x ∧ x < n := by
  unfold irange
  rw [List.mem_map]
  constructor
  · rintro ⟨i, hi, rfl⟩
    have := List.mem_range.1 hi
    omega
  · rintro ⟨h1, h2⟩
    exact ⟨x.toNat, List.mem_range.2 (by omega), by omega⟩
theorem irange_nodup (n : Nat) : (irange n).Nodup := by
  induction n with
  | zero => exact List.nodup_nil
  | succ n ih =>
    rw [irange_succ, List.nodup_append]
    refine ⟨ih, by simp, fun a ha b hb => ?_⟩
    simp at hb
    have := irange_mem.1 ha
    omega
theorem perm_p0 {n : Nat} {l : List Int} (h : l.Perm (irange n)) : P0 n l := by
  have hl : l.length = n := by rw [h.length_eq, irange_len]
  have hd : l.Nodup := h.nodup_iff.2 (irange_nodup n)
  refine ⟨hl, fun k hk => irange_mem.1 (h.mem_iff.1 (mem_getD.2 ⟨k, by omega, rfl⟩)), fun i j hi hj e => ?_⟩
  have hp := List.pairwise_iff_getElem.1 hd
  have e1 : ∀ x (hx : x < l.length), l.getD x 0 = l[x] := fun x hx => by simp [List.getD, hx]
  rw [e1 i (by omega), e1 j (by omega)] at e
  rcases Nat.lt_trichotomy i j with h1 | h1 | h1
  · exact absurd e (hp i j (by omega) (by omega) h1)
  · exact h1
  · exact absurd e.symm (hp j i (by omega) (by omega) h1)
/-- Small numbers without a sign. -/
def uc (l : List Int) : List Value := l.map (.int .u8)
theorem uc_get {l : List Int} {i : Nat} (h : i < l.length) : (uc l)[i]? = some (.int .u8 (l.getD i 0)) := by simp [uc, h, List.getD]
theorem uc_at {l : List Int} {i : Nat} (h : i < l.length) : (uc l)[0 + (i : Int).toNat * 1]? = some (.int .u8 (l.getD i 0)) := by
  rw [show 0 + (i : Int).toNat * 1 = i by omega]; exact uc_get h
theorem Grew.le {s : St} {base base' : Nat} {v : Value} {sz n : Nat} {cells : List Value} {bo : Option Nat} (h : Grew s base v sz n cells bo) (hb : base' ≤ base) : Grew s base' v sz n cells bo := by
  rcases h with h | ⟨b, h1, h2, h3⟩
  · exact .inl h
  · exact .inr ⟨b, h1, Nat.le_trans hb h2, h3⟩
def Bytes (l : List Int) (n : Nat) : Prop := l.length = n ∧ ∀ i, i < n → 0 ≤ l.getD i 0 ∧ l.getD i 0 ≤ 255
set_option maxHeartbeats 4000000 in
set_option maxRecDepth 100000 in
theorem c23 (hK : Late K) {v : Value} {l : List Int} {b k : Nat} {s : St} (hown : OwnAt s v 1 l.length b (ic l)) (hk : k < l.length) (hl : l.length ≤ 1000) :
    Ev Try.prog K (.func (.func 23) #[] #[]) [v, .int .i64 k, .int .i64 ((k : Int) + 1)] s fun r s' => ∃ v', r = v' ∧ OwnAt s' v' 1 (l.length - 1) b (ic (without l k)) ∧ Same [b] s s' := by
  obtain ⟨cap, md, cs, rfl, hle, hg, hmd, hcs, htk⟩ := hown
  rw [Nat.mul_one] at hcs htk
  refine Ev.enterK (hK.none (by decide) _) Try.func23 rfl rfl (Nat.le_of_ble_eq_true rfl) ?_
  refine Wc.tail ?_
  refine Wc.assoc ?_
  refine Wc.region ?_
  refine Wk.q rfl rfl rfl (Qk.assign rfl) ?_
  refine Wk.next ?_
  refine Wc.assoc ?_
  refine Wc.region ?_
  refine Wk.q rfl rfl rfl (Qk.move rfl) ?_
  refine Wk.q rfl rfl rfl (Qk.move rfl) ?_
  refine Wk.q rfl rfl rfl (Qk.move rfl) ?_
  refine Wk.q rfl rfl rfl (Qk.move rfl) ?_
  refine Wk.q rfl rfl rfl (Qk.len rfl rfl rfl sl29) ?_
  obtain ⟨vall, hall⟩ := del_all (P := Try.prog) (s := s) (t := 29) (b := b) (cap := cap) (m := l.length) (kd1 := .i64) (kd2 := .i64) (kd3 := .i64) (i := k) (j := (k : Int) + 1) ar29 sl29 (by omega)
  refine Wk.r rfl rfl rfl (Rk.slice rfl rfl rfl rfl (by assumption)) ?_
  refine Wk.next ?_
  refine Wc.assoc ?_
  refine Wc.assoc ?_
  refine Wc.region ?_
  refine Wk.q rfl rfl rfl (Qk.move rfl) ?_
  refine Wk.q rfl rfl rfl (Qk.move rfl) ?_
  refine Wk.b rfl rfl rfl (Qk.bin rfl rfl rfl) fun b h16 => ?_
  obtain rfl : b = false := by rw [← h16]; exact beq_eq_false_iff_ne.2 (by omega) -- t16
  refine Wk.next ?_
  refine Wc.condF rfl ?_
  refine Wc.skip ?_
  refine Wc.assoc ?_
  refine Wc.region ?_
  refine Wk.q rfl rfl rfl (Qk.move rfl) ?_
  refine Wk.q rfl rfl rfl (Qk.len rfl rfl rfl sl29) ?_
  refine Wk.q rfl rfl rfl (Qk.assign rfl) ?_
  refine Wk.next ?_
  refine Wc.assoc ?_
  refine Wc.draw0 rfl ?_
  refine Wd.q rfl rfl rfl (Qk.move rfl) ?_
  refine Wd.q rfl rfl rfl (Qk.move rfl) ?_
  have hhead := del_head (P := Try.prog) (t := 29) (kd := .i64) (m := l.length) (i := k) ar29 sl29 hg hmd (by omega)
  refine Wd.r rfl rfl rfl (Rk.slice rfl rfl rfl rfl (by assumption)) rfl ?_
  refine Wd.q rfl rfl rfl (Qk.move rfl) ?_
  refine Wd.q rfl rfl rfl (Qk.move rfl) ?_
  obtain ⟨a, cp, htail, haa⟩ := del_tail (P := Try.prog) (t := 29) (kd := .i64) (m := l.length) (i := (k : Int) + 1) ar29 sl29 hg hmd (by omega)
  refine Wd.r rfl rfl rfl (Rk.slice rfl rfl rfl rfl (by assumption)) rfl ?_
  refine Wd.store' fun s1 e1 => ?_
  obtain ⟨cs2, hap, hcs2, htk2⟩ := del_app (i := k) (cp := cp) (a := a) ap29 hg hmd hcs hle (by omega) htk hk (fun h => haa (by omega))
  rw [e1]
  refine Wd.h rfl rfl rfl (Hk.append rfl rfl rfl rfl (by first | exact hap | assumption)) rfl rfl ?_
  refine Wd.q rfl rfl rfl (Qk.assign rfl) ?_
  refine Wd.next ?_
  refine Wc.store fun s2 e2 => ?_
  have hg2 : s2.get b = some ⟨cs2, md⟩ := by subst e2; exact gsetn hg
  have hs2 : Same [b] s s2 := by subst e2; exact (Same.refl _ _).set (.inr (by simp))
  clear e2
  refine Wc.assoc ?_
  refine Wc.region ?_
  refine Wk.q rfl rfl rfl (Qk.move rfl) ?_
  refine Wk.q rfl rfl rfl (Qk.move rfl) ?_
  refine Wk.q rfl rfl rfl (Qk.len rfl rfl rfl sl29) ?_
  refine Wk.q rfl rfl rfl (Qk.move rfl) ?_
  obtain ⟨cp2, hlast⟩ := del_last (P := Try.prog) (t := 29) (kd1 := .i64) (kd2 := .i64) (m := l.length - 1) (i := ((l.length - 1 : Nat) : Int)) (j := (l.length : Nat)) ar29 sl29 hg2 hmd (by omega)
  have hone : ((l.length : Nat) : Int).toNat - ((l.length - 1 : Nat) : Int).toNat = 1 := by omega
  rw [hone] at hlast
  have hclr := del_clear (P := Try.prog) (t := 29) (cp := cp2) (i := ((l.length - 1 : Nat) : Int).toNat) sl29 ze3 hg2 hmd (by omega)
  refine Wk.r rfl rfl rfl (Rk.slice rfl rfl rfl rfl (by assumption)) ?_
  refine Wk.h rfl rfl rfl (Hk.clear rfl rfl rfl (by assumption)) ?_
  refine Wk.next ?_
  refine Wc.store fun s3 e3 => ?_
  refine Wc.assoc ?_
  refine Wc.region ?_
  refine Wk.q rfl rfl rfl (Qk.move rfl) ?_
  refine Wk.q rfl rfl rfl (Qk.assign rfl) ?_
  refine Wk.next ?_
  refine Wc.done'' (fun _ _ => rfl) rfl ?_
  refine ⟨_, rfl, ⟨cap, md, cs2.set (l.length - 1) (.int .i64 0), rfl, by omega, ?_, hmd, by simpa using hcs2, ?_⟩, ?_⟩
  · subst e3; exact gsetn hg2
  · rw [Nat.mul_one, List.take_set_of_le (Nat.le_refl _)]; exact htk2
  · subst e3; exact hs2.set (.inr (by simp))
set_option maxHeartbeats 4000000 in
set_option maxRecDepth 100000 in
theorem c6 (hK : Late K) {n : Nat} {l8 : List Int} (hn : 1 ≤ n ∧ n ≤ 6) (hl8 : Bytes l8 8) {s : St} :
    Ev Try.prog K (.func (.func 6) #[] #[]) [.int .i64 n, .agg (uc l8).toArray] s fun r s' => ∃ l v bo, r = v ∧ Grew s' s.size v 1 l.length (ic l) bo ∧ s.size ≤ s'.size ∧ P0 n l ∧ Old s s' := by
  have hl8l := hl8.1
  refine Ev.enterK (hK.none (by decide) _) Try.func6 rfl rfl (Nat.le_of_ble_eq_true rfl) ?_
  refine Wc.tail ?_
  refine Wc.assoc ?_
  refine Wc.region ?_
  refine Wk.f rfl rfl rfl (Fk.box rfl rfl) ?_
  refine Wk.q rfl rfl rfl (Qk.assign rfl) ?_
  refine Wk.next ?_
  refine Wc.store fun s1 e1 => ?_
  have ho1 : Old s s1 := by subst e1; exact Old.push _ _
  have hg3 : s1.get s.size = some ⟨uc l8, .rw⟩ := by subst e1; exact gnew
  have hl1 := St.get_lt hg3
  clear e1
  refine Wc.assoc ?_
  refine Wc.region ?_
  refine Wk.q rfl rfl rfl (Qk.assign rfl) ?_
  refine Wk.q rfl rfl rfl (Qk.assign rfl) ?_
  refine Wk.next ?_
  refine Wc.assoc ?_
  refine Wc.assoc ?_
  refine Wc.region ?_
  refine Wk.q rfl rfl rfl (Qk.assign rfl) ?_
  refine Wk.next ?_
  refine Wc.block ?_
  refine Wc.loop (σ := Nat × Value × Option Nat × St) (fun y => y.1 ≤ n ∧ Old s1 y.2.2.2 ∧ Grew y.2.2.2 s1.size y.2.1 1 (irange y.1).length (ic (irange y.1)) y.2.2.1)
    (fun y => [(0, .int .i64 n), (3, .pointer (some ⟨s.size, 0, none⟩)), (5, y.2.1), (6, .slice none 0 0), (7, .int .i64 y.1)]) (fun y => y.2.2.2) (fun y => n - y.1) (0, .slice none 0 0, none, s1)
    ⟨Nat.zero_le _, Old.refl _, Grew.nil⟩ ⟨rfl, rfl, rfl, rfl, rfl, trivial⟩ rfl ?_
  rintro ⟨i, rv, bo, sa⟩ ⟨hi, hoa, hgr⟩
  dsimp only at hi hoa hgr ⊢
  refine Wc.assoc ?_
  refine Wc.assoc ?_
  refine Wc.region ?_
  refine Wk.q rfl rfl rfl (Qk.move rfl) ?_
  refine Wk.q rfl rfl rfl (Qk.move rfl) ?_
  refine Wk.b rfl rfl rfl (Qk.bin rfl rfl rfl) fun b h11 => ?_
  cases b
  · -- t11 = False
    have hge : i = n := by
      have : ¬ ((i : Int) < (n : Int)) := of_decide_eq_false h11
      omega
    subst hge
    obtain ⟨rb, hrb, hrown⟩ : ∃ b, s1.size ≤ b ∧ OwnAt sa rv 1 (irange i).length b (ic (irange i)) := by
      rcases hgr with ⟨_, _, h, _⟩ | ⟨b, _, h2, h3⟩
      · rw [irange_len] at h; omega
      · exact ⟨b, h2, h3⟩
    refine Wk.next ?_
    refine Wc.condF rfl ?_
    refine Wc.jump (fun _ _ => rfl) ?_
    refine Wc.assoc ?_
    refine Wc.block ?_
    refine Wc.loop (σ := List Int × List Int × Value × Nat × Value × Option Nat × St) (fun y => y.1.length ≤ i ∧ (y.2.1 ++ y.1).Perm (irange i) ∧ Old s1 y.2.2.2.2.2.2 ∧ s1.size ≤ y.2.2.2.1 ∧ OwnAt y.2.2.2.2.2.2 y.2.2.1 1 y.1.length y.2.2.2.1 (ic y.1) ∧ Grew y.2.2.2.2.2.2 s1.size y.2.2.2.2.1 1 y.2.1.length (ic y.2.1) y.2.2.2.2.2.1 ∧ ∀ c, y.2.2.2.2.2.1 = some c → c ≠ y.2.2.2.1)
      (fun y => [(3, .pointer (some ⟨s.size, 0, none⟩)), (5, y.2.2.1), (6, y.2.2.2.2.1)]) (fun y => y.2.2.2.2.2.2) (fun y => y.1.length) (irange i, [], rv, rb, .slice none 0 0, none, sa)
      ⟨by dsimp only; rw [irange_len]; omega, .refl _, hoa, hrb, hrown, Grew.nil, fun c h => by cases h⟩ ⟨rfl, rfl, rfl, trivial⟩ rfl ?_
    clear hrb hrown hoa hgr
    rintro ⟨rest, out, rv, rb, ov, bo, sa⟩ ⟨hrl, hperm, hoa, hrb, hrown, hgo, hne⟩
    dsimp only at hrl hperm hoa hrb hrown hgo hne ⊢
    have hrest := hrown.irow
    have hg3 := hoa.get hg3
    refine Wc.assoc ?_
    refine Wc.assoc ?_
    refine Wc.region ?_
    refine Wk.q rfl rfl rfl (Qk.move rfl) ?_
    refine Wk.q rfl rfl rfl (Qk.lenR rfl rfl rfl hrest sl29) ?_
    refine Wk.b rfl rfl rfl (Qk.bin rfl rfl rfl) fun b h20 => ?_
    cases b
    · -- t20 = False
      have h0 : rest = [] := by
        have : ¬ ((rest.length : Int) > 0) := of_decide_eq_false h20
        exact List.length_eq_zero_iff.1 (by omega)
      subst h0
      refine Wk.next ?_
      refine Wc.condF rfl ?_
      refine Wc.jump (fun _ _ => rfl) ?_
      refine Wc.assoc ?_
      refine Wc.region ?_
      refine Wk.q rfl rfl rfl (Qk.move rfl) ?_
      refine Wk.q rfl rfl rfl (Qk.assign rfl) ?_
      refine Wk.next ?_
      refine Wc.done'' (fun _ _ => rfl) rfl ?_
      rw [List.append_nil] at hperm
      exact ⟨out, _, bo, rfl, hgo.le ho1.1, by have := hoa.1; have := ho1.1; omega, perm_p0 hperm, Old.trans ho1 hoa⟩
    · -- t20 = True
      have hpos : 0 < rest.length := by
        have : ((rest.length : Int) > 0) := of_decide_eq_true h20
        omega
      have hb8 := hl8.2 (rest.length % 8) (Nat.mod_lt _ (by decide))
      obtain ⟨kk, hkk, hklt⟩ : ∃ kk : Nat, (l8.getD (rest.length % 8) 0).tmod (rest.length : Int) = kk ∧ kk < rest.length := by
        refine ⟨((l8.getD (rest.length % 8) 0).tmod (rest.length : Int)).toNat, ?_, ?_⟩
        · have := Int.tmod_nonneg (rest.length : Int) hb8.1; omega
        · have h1 := Int.tmod_lt_of_pos (l8.getD (rest.length % 8) 0) (show (0 : Int) < rest.length by omega); have := Int.tmod_nonneg (rest.length : Int) hb8.1; omega
      refine Wk.next ?_
      refine Wc.condT rfl ?_
      refine Wc.skip ?_
      refine Wc.block ?_
      refine Wc.assoc ?_
      refine Wc.region ?_
      refine Wk.q rfl rfl rfl (Qk.move rfl) ?_
      refine Wk.q rfl rfl rfl (Qk.lenR rfl rfl rfl hrest sl29) ?_
      refine Wk.q rfl rfl rfl (Qk.eqv (u := .int .i64 ((rest.length % 8 : Nat) : Int)) (Qk.bin rfl rfl rfl) (by congr 1)) ?_
      refine Wk.q rfl rfl rfl (Qk.iaA rfl rfl ar26 (by constructor <;> omega)) ?_
      refine Wk.r rfl rfl rfl (Rk.cell rfl sh5 (by first | assumption | repeat (first | exact gnew | exact gsetn gnew | assumption | exact gsetn (by assumption) | exact gsetn (gset (by assumption) (by omega)) | refine gpush ?_ | refine gset ?_ (by first | omega | (simp; omega)) )) (by simp) (uc_at (by omega))) ?_
      refine Wk.q rfl rfl rfl (Qk.cvt rfl und5 und3 (i64_in _ (by omega))) ?_
      refine Wk.q rfl rfl rfl (Qk.move rfl) ?_
      refine Wk.q rfl rfl rfl (Qk.lenR rfl rfl rfl hrest sl29) ?_
      refine Wk.q rfl rfl rfl (Qk.eqv (u := .int .i64 (kk : Nat)) (Qk.remI rfl rfl (by omega)) (by rw [hkk])) ?_
      refine Wk.q rfl rfl rfl (Qk.assign rfl) ?_
      refine Wk.next ?_
      refine Wc.assoc ?_
      refine Wc.region ?_
      refine Wk.q rfl rfl rfl (Qk.move rfl) ?_
      refine Wk.q rfl rfl rfl (Qk.move rfl) ?_
      refine Wk.q rfl rfl rfl (Qk.move rfl) ?_
      refine Wk.q rfl rfl rfl (Qk.at rfl rfl ar29 sl29 hrest (by constructor <;> omega)) ?_
      refine Wk.r rfl rfl rfl (Rk.intR rfl sh3 hrest (i := kk) (by omega)) ?_
      refine Wk.f rfl rfl rfl (Fk.one rfl rfl sl29 ze3 rfl rfl rfl (by decide)) ?_
      refine Wk.store' fun s2 e2 => ?_
      have ho2 : Old sa s2 := by subst e2; exact Old.push _ _
      have hone : IRow s2 (.slice (some ⟨sa.size, 0, none⟩) 1 1) [rest.getD kk 0] := by subst e2; exact IRow.of_get (l := [rest.getD kk 0]) gnew (by simp) (Nat.le_refl _)
      obtain ⟨ov', t7, bo7, hap, hgr7, hb7, hsame7⟩ := append_ints ap29 (hgo.same (ho2.same []) (by simp)) (by have := hoa.1; have := ho2.1; omega) hone (by have := hperm.length_eq; rw [List.length_append, irange_len] at this; simp; omega)
      refine Wk.h rfl rfl rfl (Hk.append rfl rfl rfl rfl (by first | exact hap | assumption)) ?_
      refine Wk.q rfl rfl rfl (Qk.assign rfl) ?_
      refine Wk.next ?_
      refine Wc.store fun s3 e3 => ?_
      subst e3
      have hrown2 : OwnAt s3 rv 1 rest.length rb (ic rest) := (hrown.old ho2).keep (hsame7.2.1 rb (hrown.old ho2).lt (by
        intro hx
        cases bo with
        | none => simp at hx
        | some d => simp at hx; exact hne d rfl hx.symm))
      have hoa3 : Old s1 s3 := Same.older (hoa.trans ho2) hsame7 (by intro x hx; cases bo with | none => simp at hx | some d => simp at hx; subst hx; exact hgo.ge rfl)
      have hne7 : ∀ c, bo7 = some c → c ≠ rb := by
        rintro c rfl
        rcases hb7 with hb7 | hb7
        · exact hne c hb7.symm
        · cases hb7
          have := hrown.lt
          have := ho2.1
          have hs2 : s2.size = sa.size + 1 := by subst e2; simp
          omega
      refine Wc.region ?_
      refine Wk.q rfl rfl rfl (Qk.move rfl) ?_
      refine Wk.q rfl rfl rfl (Qk.move rfl) ?_
      refine Wk.q rfl rfl rfl (Qk.move rfl) ?_
      refine Wk.q rfl rfl rfl (Qk.add rfl rfl (by omega)) ?_
      refine Wk.c rfl rfl rfl (Ck.call rfl rfl) ((c23 hK hrown2 hklt (by omega)).mono ?_)
      rintro r t ⟨_, rfl, hrown', hsame'⟩
      refine Wk.q rfl rfl rfl (Qk.assign rfl) ?_
      refine Wk.next ?_
      refine Wc.thence (fun _ _ => rfl) ?_
      refine Wc.finish fun fr hf => ?_
      refine ⟨(without rest kk, out ++ [rest.getD kk 0], r, rb, ov', bo7, t), ⟨?_, ?_, Same.older hoa3 hsame' (by intro x hx; simp at hx; subst hx; exact hrb), hrb, ?_, ?_, hne7⟩, ?_, rfl, hf.less ⟨rfl, rfl, rfl, trivial⟩⟩
      · dsimp only; rw [without_len hklt]; omega
      · dsimp only
        rw [List.append_assoc]
        exact ((without_perm hklt).append_left out).trans hperm
      · dsimp only; rw [without_len hklt]; exact hrown'
      · dsimp only
        rw [show ic (out ++ [rest.getD kk 0]) = ic out ++ ic [rest.getD kk 0] by simp [ic], List.length_append]
        exact hgr7.same hsame' (fun c hc => by simp; exact hne7 c hc)
      · dsimp only; rw [without_len hklt]; omega
  · -- t11 = True
    have hil : i < n := by
      have : (i : Int) < (n : Int) := of_decide_eq_true h11
      omega
    refine Wk.next ?_
    refine Wc.condT rfl ?_
    refine Wc.skip ?_
    refine Wc.assoc ?_
    refine Wc.block ?_
    refine Wc.region ?_
    refine Wk.q rfl rfl rfl (Qk.move rfl) ?_
    refine Wk.q rfl rfl rfl (Qk.move rfl) ?_
    refine Wk.f rfl rfl rfl (Fk.one rfl rfl sl29 ze3 rfl rfl rfl (by decide)) ?_
    refine Wk.store' fun s4 e4 => ?_
    have ho2 : Old sa s4 := by subst e4; exact Old.push _ _
    have hone : IRow s4 (.slice (some ⟨sa.size, 0, none⟩) 1 1) [(i : Int)] := by subst e4; exact IRow.of_get (l := [(i : Int)]) gnew (by simp) (Nat.le_refl _)
    obtain ⟨rv', t7, bo7, hap, hgr7, hb7, hsame7⟩ := append_ints ap29 (hgr.same (ho2.same []) (by simp)) (by have := hoa.1; have := ho2.1; omega) hone (by rw [irange_len]; simp; omega)
    refine Wk.h rfl rfl rfl (Hk.append rfl rfl rfl rfl (by first | exact hap | assumption)) ?_
    refine Wk.q rfl rfl rfl (Qk.assign rfl) ?_
    refine Wk.next ?_
    refine Wc.store fun s5 e5 => ?_
    subst e5
    refine Wc.thence (fun _ _ => rfl) ?_
    refine Wc.region ?_
    refine Wk.q rfl rfl rfl (Qk.move rfl) ?_
    refine Wk.q rfl rfl rfl (Qk.add rfl rfl (by omega)) ?_
    refine Wk.q rfl rfl rfl (Qk.assign rfl) ?_
    refine Wk.next ?_
    refine Wc.finish fun fr hf => ?_
    refine ⟨(i + 1, rv', bo7, s5), ⟨hil, Same.older (hoa.trans ho2) hsame7 (by intro x hx; cases bo with | none => simp at hx | some d => simp at hx; subst hx; exact hgr.ge rfl), ?_⟩, by dsimp only; omega, rfl, hf.less ⟨rfl, rfl, rfl, rfl, rfl, trivial⟩⟩
    dsimp only
    rw [irange_succ, List.length_append, show ic (irange i ++ [(i : Int)]) = ic (irange i) ++ ic [(i : Int)] by simp [ic]]
    exact hgr7
end Go.Proofs.Ytfgnjndicidpkaa
