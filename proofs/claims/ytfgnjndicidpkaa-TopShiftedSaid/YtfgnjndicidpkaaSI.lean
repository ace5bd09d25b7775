/- Links: the greatest walks between rooms. -/
import Derived.Test.YtfgnjndicidpkaaSH
namespace Go.Proofs.Ytfgnjndicidpkaa
open Go.Abs
variable {K : Known}

def lrow (n : Nat) (f : Nat → Int) : List Int := (List.range n).map f
@[simp] theorem lrow_len {n : Nat} (f : Nat → Int) : (lrow n f).length = n := by simp [lrow]
theorem lrow_get {n : Nat} {f : Nat → Int} {k : Nat} (h : k < n) : (lrow n f).getD k 0 = f k := by simp [lrow, List.getD, h]
theorem lrow_congr {n : Nat} {f g : Nat → Int} (h : ∀ k, k < n → f k = g k) : lrow n f = lrow n g := List.map_congr_left fun k hk => h k (List.mem_range.1 hk)
theorem lrow_succ {n : Nat} {f : Nat → Int} : lrow (n + 1) f = lrow n f ++ [f n] := by simp [lrow, List.range_succ]
theorem lrow_set {n : Nat} {f : Nat → Int} {k : Nat} {x : Int} : (lrow n f).set k x = lrow n (fun i => if i = k then x else f i) := by
  refine List.ext_getElem (by simp) fun i h1 h2 => ?_
  simp only [lrow, List.getElem_set, List.getElem_map, List.getElem_range]
  by_cases e : k = i
  · rw [if_pos e, if_pos e.symm]
  · rw [if_neg e, if_neg (Ne.symm e)]
def tab (n : Nat) (f : Nat → Nat → Int) : List (List Int) := (List.range n).map fun j => lrow n (f j)
@[simp] theorem tab_len {n : Nat} {f : Nat → Nat → Int} : (tab n f).length = n := by simp [tab]
theorem tab_row {n : Nat} {f : Nat → Nat → Int} {j : Nat} (h : j < n) : rowM (tab n f) j = lrow n (f j) := by simp [rowM, tab, List.getD, h]
theorem tab_mat {n : Nat} {f : Nat → Nat → Int} {j k : Nat} (h : j < n) (hk : k < n) : matM (tab n f) j k = f j k := by unfold matM; rw [tab_row h, lrow_get hk]

/-- Within a stage: the cells ahead of (j, k) are done. -/
def stg (w : Nat → Nat → Int) (t j k x y : Nat) : Int := if x < j ∨ (x = j ∧ y < k) then fw w (t + 1) x y else fw w t x y
section
variable {w : Nat → Nat → Int} {t j k x y n : Nat}
theorem stg_next (hy : y < n) : stg w t j n x y = stg w t (j + 1) 0 x y := by
  unfold stg
  by_cases e : x < j
  · rw [if_pos (.inl e), if_pos (.inl (by omega))]
  · by_cases e2 : x = j
    · rw [if_pos (.inr ⟨e2, hy⟩), if_pos (.inl (by omega))]
    · rw [if_neg (by omega), if_neg (by omega)]
theorem stg_col (hd : fw w t t t = 0) : stg w t j k j t = fw w t j t := by
  unfold stg
  split
  · simp only [fw]; omega
  · rfl
theorem stg_row (hd : fw w t t t = 0) : stg w t j k t k = fw w t t k := by
  unfold stg
  split
  · simp only [fw]; omega
  · rfl
theorem stg_step {z : Int} (hz : z = fw w (t + 1) x k) : stg w t x (k + 1) x y = if y = k then z else stg w t x k x y := by
  unfold stg
  by_cases e : y = k
  · subst e; rw [if_pos rfl, if_pos (.inr ⟨rfl, by omega⟩), hz]
  · rw [if_neg e]
    by_cases e2 : y < k
    · rw [if_pos (.inr ⟨rfl, by omega⟩), if_pos (.inr ⟨rfl, e2⟩)]
    · rw [if_neg (by omega), if_neg (by omega)]
theorem stg_other (e : x ≠ j) : stg w t j k x y = stg w t j (k + 1) x y := by
  unfold stg
  by_cases e1 : x < j
  · rw [if_pos (.inl e1), if_pos (.inl e1)]
  · rw [if_neg (by omega), if_neg (by omega)]
theorem fw_bound2 {B : Int} (hB : 0 ≤ B) (h : ∀ j k, j < n → k < n → -B ≤ w j k ∧ w j k ≤ B) : ∀ t, t ≤ n → ∀ j k, j < n → k < n → -B ≤ fw w t j k ∧ fw w t j k ≤ (2 ^ t : Nat) * B
  | 0, _, j, k, hj, hk => by have := h j k hj hk; simp only [fw]; omega
  | t + 1, ht, j, k, hj, hk => by
    have h1 := fw_bound2 hB h t (by omega) j k hj hk
    have h2 := fw_bound2 hB h t (by omega) j t hj (by omega)
    have h3 := fw_bound2 hB h t (by omega) t k (by omega) hk
    simp only [fw]
    have e : ((2 ^ (t + 1) : Nat) : Int) * B = (2 ^ t : Nat) * B + (2 ^ t : Nat) * B := by rw [show ((2 ^ (t + 1) : Nat) : Int) = (2 ^ t : Nat) + (2 ^ t : Nat) by rw [Nat.pow_succ]; omega, Int.add_mul]
    rw [e]
    have hp : 0 ≤ ((2 ^ t : Nat) : Int) * B := Int.mul_nonneg (Int.natCast_nonneg _) hB
    omega
theorem fw_bound (h : ∀ j k, j < n → k < n → -1000000 ≤ w j k ∧ w j k ≤ 1000000) (h6 : n ≤ 6) (ht : t ≤ n) (hx : x < n) (hy : y < n) : -64000000 ≤ fw w t x y ∧ fw w t x y ≤ 64000000 := by
  have h1 := fw_bound2 (B := 1000000) (by decide) h t ht x y hx hy
  have h2 : 2 ^ t ≤ 64 := Nat.pow_le_pow_right (n := 2) (by decide) (show t ≤ 6 by omega)
  omega
end

theorem Asg.inv {n : Nat} {a : Nat → Nat} (h : Asg n a) : ∃ o, Inv n a o := by
  refine ⟨fun j => Classical.epsilon fun i => i < n ∧ a i = j, fun j hj => ?_, fun j hj => ?_⟩
  · exact (Classical.epsilon_spec (h.onto j hj)).1
  · exact (Classical.epsilon_spec (h.onto j hj)).2

/-- The links of a flat, whichever best assignment is taken. -/
noncomputable def LK (M : List (List Int)) : Nat → Nat → Int := links M.length (matM M) (Classical.epsilon fun o => ∃ a, Opt M.length (matM M) a ∧ Inv M.length a o)
theorem LK_eq {M : List (List Int)} {a o : Nat → Nat} (hO : Opt M.length (matM M) a) (hI : Inv M.length a o) {j k : Nat} (hj : j < M.length) (hk : k < M.length) : links M.length (matM M) o j k = LK M j k := by
  have h : ∃ o a, Opt M.length (matM M) a ∧ Inv M.length a o := ⟨o, a, hO, hI⟩
  obtain ⟨a', h1, h2⟩ := Classical.epsilon_spec h
  exact links_same h1 h2 hO hI hj hk

/-! ### Matrices of one's own -/

theorem OwnAt.old {s s' : St} {v : Value} {sz n b : Nat} {cells : List Value} (h : OwnAt s v sz n b cells) (ho : Old s s') : OwnAt s' v sz n b cells := h.keep (ho.2.1 b h.lt)
theorem Grew.lt' {s : St} {base : Nat} {v : Value} {sz n : Nat} {cells : List Value} {bo : Option Nat} {c : Nat} (h : Grew s base v sz n cells bo) (hc : bo = some c) : c < s.size := by subst hc; exact h.lt.1
structure MOwn (s : St) (base : Nat) (v : Value) (n b : Nat) (rv : Nat → Value) (c : Nat → Nat) (L : Nat → List Int) : Prop where
  top : OwnAt s v 1 n b ((List.range n).map rv)
  rows : ∀ i, i < n → OwnAt s (rv i) 1 (L i).length (c i) (ic (L i))
  low : base ≤ b
  bases : ∀ i, i < n → base ≤ c i
  apart : ∀ i, i < n → c i ≠ b
  inj : ∀ i j, i < n → j < n → c i = c j → i = j
structure MGrew (s : St) (base : Nat) (v : Value) (n : Nat) (bo : Option Nat) (rv : Nat → Value) (c : Nat → Nat) (L : Nat → List Int) : Prop where
  top : Grew s base v 1 n ((List.range n).map rv) bo
  rows : ∀ i, i < n → OwnAt s (rv i) 1 (L i).length (c i) (ic (L i))
  bases : ∀ i, i < n → base ≤ c i
  apart : ∀ i, i < n → bo ≠ some (c i)
  inj : ∀ i j, i < n → j < n → c i = c j → i = j
section
variable {s s' : St} {base : Nat} {v : Value} {n b : Nat} {bo : Option Nat} {rv : Nat → Value} {c : Nat → Nat} {L : Nat → List Int}
theorem MGrew.nil {L : Nat → List Int} : MGrew s base (.slice none 0 0) 0 none (fun _ => undef) (fun _ => 0) L := ⟨Grew.nil, by omega, by omega, by omega, by omega⟩
theorem MGrew.own (h : MGrew s base v n bo rv c L) (hn : 1 ≤ n) : ∃ b, MOwn s base v n b rv c L := by
  rcases h.top with ⟨_, _, h1, _⟩ | ⟨b, h1, h2, h3⟩
  · omega
  · exact ⟨b, h3, h.rows, h2, h.bases, fun i hi e => h.apart i hi (by rw [h1, e]), h.inj⟩
theorem MGrew.old (h : MGrew s base v n bo rv c L) (ho : Old s s') : MGrew s' base v n bo rv c L := ⟨h.top.same (ho.same []) (by simp), fun i hi => (h.rows i hi).old ho, h.bases, h.apart, h.inj⟩
theorem MOwn.old (h : MOwn s base v n b rv c L) (ho : Old s s') : MOwn s' base v n b rv c L := ⟨h.top.old ho, fun i hi => (h.rows i hi).old ho, h.low, h.bases, h.apart, h.inj⟩
theorem MOwn.congr {L' : Nat → List Int} (h : MOwn s base v n b rv c L) (e : ∀ i, i < n → L i = L' i) : MOwn s base v n b rv c L' := ⟨h.top, fun i hi => by rw [← e i hi]; exact h.rows i hi, h.low, h.bases, h.apart, h.inj⟩
theorem MOwn.orow (h : MOwn s base v n b rv c L) : Row s v n 1 (fun i => [rv i]) := h.top.row fun i hi => by
  rw [Nat.mul_one]
  exact take_drop_one (by simp [hi])
theorem MOwn.irow (h : MOwn s base v n b rv c L) {i : Nat} (hi : i < n) : IRow s (rv i) (L i) := (h.rows i hi).irow
theorem MOwn.mrow (h : MOwn s base v n b rv c L) : MRow s v ((List.range n).map L) := ⟨rv, by simpa using h.orow, fun i hi => by
  have hi' : i < n := by simpa using hi
  have e : rowM ((List.range n).map L) i = L i := by simp [rowM, List.getD, hi']
  rw [e]
  exact h.irow hi'⟩
theorem MOwn.mrow_lk {M : List (List Int)} {a o : Nat → Nat} (hO : Opt M.length (matM M) a) (hI : Inv M.length a o) (h : MOwn s base v M.length b rv c (fun j => lrow M.length (fw (link (matM M) o) M.length j))) : MRow s v (tab M.length (LK M)) := by
  have := h.mrow
  rw [show (List.range M.length).map (fun j => lrow M.length (fw (link (matM M) o) M.length j)) = tab M.length (LK M) from List.map_congr_left fun j hj => lrow_congr fun k hk => LK_eq hO hI (List.mem_range.1 hj) hk] at this
  exact this
theorem MOwn.set {i k : Nat} {u : Int} (h : MOwn s base v n b rv c L) (hi : i < n) (hk : k < (L i).length) :
    ∃ s', astore Try.prog s 3 (.int .i64 u) (ptr (rv i) (k * 1)) = some s' ∧ MOwn s' base v n b rv c (fun x => if x = i then (L i).set k u else L x) ∧ Same [c i] s s' := by
  obtain ⟨s', h1, h2, h3⟩ := own_store (u := u) (i := k) sh3 (h.rows i hi) hk
  refine ⟨s', h1, ⟨h.top.keep (h3.2.1 b h.top.lt (by simp; exact (h.apart i hi).symm)), fun x hx => ?_, h.low, h.bases, h.apart, h.inj⟩, h3⟩
  by_cases e : x = i
  · subst e; simp only [if_true]; rw [List.length_set]; exact h2
  · simp only [e, if_false]
    exact (h.rows x hx).keep (h3.2.1 _ (h.rows x hx).lt (by simp; exact fun e2 => e (h.inj _ _ hx hi e2)))
theorem append_val {P : Program} {st xt e : TypeId} {bytes c m : Nat} {cells : List Value} {u : Value} (ha : ApOk P st xt e 1 bytes) (h : Grew s base v 1 m cells bo) (hb : base ≤ s.size) {mode : Abs.Mode} (hg : s.get c = some ⟨[u], mode⟩) (hm : mode ≠ .dead) (hu : scalar u = true) (hn : m + 1 ≤ 2 ^ 20) :
    ∃ v' s' b', aappend P s st xt v (.slice (some ⟨c, 0, none⟩) 1 1) = some (v', s') ∧ Grew s' base v' 1 (m + 1) (cells ++ [u]) (some b') ∧ (some b' = bo ∨ b' = s.size) ∧ Same bo.toList s s' := by
  refine append_grew ha h hb (by decide) hn ?_ rfl (by simp [hu])
  unfold St.cells
  rw [hg]
  simp [hm]
theorem MGrew.snoc {s3 : St} {v' u : Value} {b' cn m : Nat} (h : MGrew s base v n bo rv c L) (hg : Grew s3 base v' 1 (n + 1) ((List.range n).map rv ++ [u]) (some b')) (hb : some b' = bo ∨ b' = s.size) (hs : Same bo.toList s s3) (hu : OwnAt s u 1 m cn (ic (L n))) (hm : m = (L n).length) (hbase : base ≤ cn)
    (hne : ∀ i, i < n → c i < cn) (hbo : ∀ d, bo = some d → some cn ≠ some d) (hnew : cn ≠ s.size) : MGrew s3 base v' (n + 1) (some b') (fun i => if i = n then u else rv i) (fun i => if i = n then cn else c i) L := by
  have hsz := hs.1
  refine ⟨?_, fun i hi => ?_, fun i hi => ?_, fun i hi => ?_, fun i j hi hj e => ?_⟩
  · have e : (List.range (n + 1)).map (fun i => if i = n then u else rv i) = (List.range n).map rv ++ [u] := by
      rw [List.range_succ, List.map_append]
      congr 1
      · exact List.map_congr_left fun i hi => if_neg (Nat.ne_of_lt (List.mem_range.1 hi))
      · simp
    rw [e]
    exact hg
  · by_cases e : i = n
    · subst e
      simp only [if_true]
      rw [← hm]
      exact hu.keep (hs.2.1 _ hu.lt (fun hx => by
        cases bo with
        | none => simp at hx
        | some d => simp at hx; exact hbo d rfl (by rw [hx])))
    · simp only [e, if_false]
      have hr := h.rows i (by omega)
      exact hr.keep (hs.2.1 _ hr.lt (fun hx => by
        cases bo with
        | none => simp at hx
        | some d => simp at hx; exact h.apart i (by omega) (by rw [hx])))
  · by_cases e : i = n
    · simp only [e, if_true]; exact hbase
    · simp only [e, if_false]; exact h.bases i (by omega)
  · by_cases e : i = n
    · simp only [e, if_true]
      rcases hb with hb | hb
      · rw [hb]; intro e2; exact hbo cn e2 rfl
      · intro e2; cases e2; exact hnew hb
    · simp only [e, if_false]
      rcases hb with hb | hb
      · rw [hb]; exact h.apart i (by omega)
      · intro e2
        have := (h.rows i (by omega)).lt
        cases e2
        omega
  · by_cases e1 : i = n
    · by_cases e2 : j = n
      · omega
      · simp only [e1, e2, if_true, if_false] at e
        have := hne j (by omega)
        omega
    · by_cases e2 : j = n
      · simp only [e1, e2, if_true, if_false] at e
        have := hne i (by omega)
        omega
      · simp only [e1, e2, if_false] at e
        exact h.inj i j (by omega) (by omega) e
end
theorem ap22 : ApOk Try.prog 22 22 29 1 24 := ⟨sl22, by decide, by rw [ze29]; rfl, by kernel_rfl, by kernel_rfl⟩

def HasOpt (M : List (List Int)) : Prop := ∃ a o, Opt M.length (matM M) a ∧ Inv M.length a o
theorem link_bd {M : List (List Int)} (hB : Bids M) {a o : Nat → Nat} (hI : Inv M.length a o) : ∀ j k, j < M.length → k < M.length → -1000000 ≤ link (matM M) o j k ∧ link (matM M) o j k ≤ 1000000 := fun j k hj hk => by
  have h1 := hB.range (o j) k (hI.lt j hj) hk
  have h2 := hB.range (o j) j (hI.lt j hj) hj
  unfold link
  omega
theorem LK_bd {M : List (List Int)} (hB : Bids M) (h : HasOpt M) {j k : Nat} (hj : j < M.length) (hk : k < M.length) : -64000000 ≤ LK M j k ∧ LK M j k ≤ 64000000 := by
  obtain ⟨a, o, hO, hI⟩ := h
  rw [← LK_eq hO hI hj hk]
  exact fw_bound (link_bd hB hI) hB.most (Nat.le_refl _) hj hk
set_option maxHeartbeats 4000000 in
set_option maxRecDepth 100000 in
theorem c10 (hK : Late K) {M : List (List Int)} {v : Value} {rent : Int} {s : St} (hm : MRow s v M) (hB : Bids M) (hr : 0 ≤ rent ∧ rent ≤ 10000000) :
    Ev Try.prog K (.func (.func 10) #[] #[]) [.agg #[v, .int .i64 rent]] s fun r s' => ∃ ov, r = .tuple #[ov, .int .i64 0] ∧ MRow s' ov (tab M.length (LK M)) ∧ HasOpt M ∧ Old s s' := by
  have hm0 := hm
  obtain ⟨rv, hR, hrow⟩ := hm0
  refine Ev.enterK (hK.none (by decide) _) Try.func10 rfl rfl (Nat.le_of_ble_eq_true rfl) ?_
  refine Wc.tail ?_
  refine Wc.assoc ?_
  refine Wc.region ?_
  refine Wk.f rfl rfl rfl (Fk.box rfl rfl) ?_
  refine Wk.q rfl rfl rfl (Qk.assign rfl) ?_
  refine Wk.q rfl rfl rfl (Qk.assign rfl) ?_
  refine Wk.next ?_
  refine Wc.store fun s1 e1 => ?_
  have ho1 : Old s s1 := by subst e1; exact Old.push _ _
  have hg1 : s1.get s.size = some ⟨[v, .int .i64 rent], .rw⟩ := by subst e1; exact gnew
  refine Wc.assoc ?_
  refine Wc.assoc ?_
  refine Wc.region ?_
  refine Wk.r rfl rfl rfl (Rk.cells rfl sh24 (by first | assumption | repeat (first | exact gnew | exact gsetn gnew | assumption | exact gsetn (by assumption) | refine gpush ?_ | refine gset ?_ (by simp; omega) )) (by simp) (by simp)) ?_
  refine Wk.c rfl rfl rfl (Ck.call rfl rfl) ((c28 hK (hm.old ho1) hB hr).mono ?_)
  rintro r t1 ⟨rfl, ho2⟩
  have hg2 := ho2.get hg1
  have ho12 := ho1.trans ho2
  refine Wk.q rfl rfl rfl (Qk.assign rfl) ?_
  refine Wk.next ?_
  refine Wc.assoc ?_
  refine Wc.region ?_
  refine Wk.q rfl rfl rfl (Qk.move rfl) ?_
  refine Wk.b rfl rfl rfl (Qk.bin rfl rfl rfl) fun b h20 => ?_
  obtain rfl : b = false := by exact h20.symm -- t20
  refine Wk.next ?_
  refine Wc.condF rfl ?_
  refine Wc.skip ?_
  refine Wc.assoc ?_
  refine Wc.region ?_
  refine Wk.q rfl rfl rfl (Qk.fa rfl fd24_0) ?_
  refine Wk.r rfl rfl rfl (Rk.cell rfl sh22 (by first | assumption | repeat (first | exact gnew | exact gsetn gnew | assumption | exact gsetn (by assumption) | refine gpush ?_ | refine gset ?_ (by simp; omega) )) (by simp) rfl) ?_
  refine Wk.c rfl rfl rfl (Ck.call rfl rfl) ((c8 hK hB (hm.old ho12)).mono ?_)
  rintro r2 t2 ⟨b, bv, cb, rfl, hown, hcb, hA, hO, ho3⟩
  have hown0 := hown
  obtain ⟨cap, md, cs, hbe, _⟩ := hown0
  subst hbe
  have hll := hA.len
  have hb := hown.irow
  have hm6 := hB.most
  obtain ⟨o, hInv⟩ := hA.asg.inv
  have ho13 := ho12.trans ho3
  have hg3 := ho3.get hg2
  have hlk : ∀ j k, j < M.length → k < M.length → -1000000 ≤ link (matM M) o j k ∧ link (matM M) o j k ≤ 1000000 := fun j k hj hk => by
    have h1 := hB.range (o j) k (hInv.lt j hj) hk
    have h2 := hB.range (o j) j (hInv.lt j hj) hj
    unfold link
    omega
  refine Wk.q rfl rfl rfl (Qk.move rfl) ?_
  refine Wk.q rfl rfl rfl (Qk.extract rfl rfl) ?_
  refine Wk.q rfl rfl rfl (Qk.extract rfl rfl) ?_
  refine Wk.q rfl rfl rfl (Qk.extract rfl rfl) ?_
  refine Wk.q rfl rfl rfl (Qk.assign rfl) ?_
  refine Wk.q rfl rfl rfl (Qk.assign rfl) ?_
  refine Wk.q rfl rfl rfl (Qk.assign rfl) ?_
  refine Wk.next ?_
  refine Wc.assoc ?_
  refine Wc.region ?_
  refine Wk.q rfl rfl rfl (Qk.move rfl) ?_
  refine Wk.q rfl rfl rfl (Qk.len rfl rfl rfl sl29) ?_
  refine Wk.q rfl rfl rfl (Qk.assign rfl) ?_
  refine Wk.next ?_
  refine Wc.assoc ?_
  refine Wc.region ?_
  refine Wk.q rfl rfl rfl (Qk.assign rfl) ?_
  refine Wk.next ?_
  refine Wc.assoc ?_
  refine Wc.assoc ?_
  refine Wc.region ?_
  refine Wk.q rfl rfl rfl (Qk.move rfl) ?_
  refine Wk.q rfl rfl rfl (Qk.move rfl) ?_
  refine Wk.next ?_
  refine Wc.block ?_
  refine Wc.loop (σ := Nat × Value × Option Nat × (Nat → Value) × (Nat → Nat) × St) (fun y => y.1 ≤ M.length ∧ Old t2 y.2.2.2.2.2 ∧ MGrew y.2.2.2.2.2 t2.size y.2.1 y.1 y.2.2.1 y.2.2.2.1 y.2.2.2.2.1 (fun j => lrow M.length (link (matM M) o j)))
    (fun y => [(1, .pointer (some ⟨s.size, 0, none⟩)), (5, .slice (some ⟨cb, 0, none⟩) b.length cap), (8, goInt b.length), (9, y.2.1), (31, goInt b.length), (32, .int .i64 y.1)]) (fun y => y.2.2.2.2.2) (fun y => M.length - y.1) (0, .slice none 0 0, none, fun _ => undef, fun _ => 0, t2)
    ⟨Nat.zero_le _, Old.refl _, MGrew.nil⟩ ⟨rfl, rfl, rfl, rfl, rfl, rfl, trivial⟩ rfl ?_
  rintro ⟨j, ov, bo, rw', cw, sa⟩ ⟨hj, hoa, hmg⟩
  dsimp only at hj hoa hmg ⊢
  refine Wc.assoc ?_
  refine Wc.region ?_
  refine Wk.b rfl rfl rfl (Qk.bin rfl rfl rfl) fun b h33 => ?_
  cases b
  · -- t33 = False
    have hge : j = M.length := by
      have : ¬ ((j : Int) < (b.length : Int)) := of_decide_eq_false h33
      omega
    subst hge
    obtain ⟨bt, hmo⟩ := hmg.own hB.pos
    refine Wk.next ?_
    refine Wc.assoc ?_
    refine Wc.condF rfl ?_
    refine Wc.jump (fun _ _ => rfl) ?_
    refine Wc.assoc ?_
    refine Wc.assoc ?_
    refine Wc.region ?_
    refine Wk.q rfl rfl rfl (Qk.move rfl) ?_
    refine Wk.q rfl rfl rfl (Qk.move rfl) ?_
    refine Wk.next ?_
    refine Wc.block ?_
    refine Wc.loop (σ := Nat × St) (fun y => y.1 ≤ M.length ∧ Old t2 y.2 ∧ MOwn y.2 t2.size ov M.length bt rw' cw (fun j => lrow M.length (fw (link (matM M) o) y.1 j)))
      (fun y => [(8, goInt b.length), (9, ov), (68, goInt b.length), (69, .int .i64 y.1)]) (fun y => y.2) (fun y => M.length - y.1) (0, sa)
      ⟨Nat.zero_le _, hoa, hmo⟩ ⟨rfl, rfl, rfl, rfl, trivial⟩ rfl ?_
    clear hmo hmg hoa
    rintro ⟨t, sb⟩ ⟨ht, hob, hmo⟩
    dsimp only at ht hob hmo ⊢
    refine Wc.assoc ?_
    refine Wc.region ?_
    refine Wk.b rfl rfl rfl (Qk.bin rfl rfl rfl) fun b h70 => ?_
    cases b
    · -- t70 = False
      refine Wk.next ?_
      refine Wc.assoc ?_
      refine Wc.condF rfl ?_
      refine Wc.jump (fun _ _ => rfl) ?_
      refine Wc.assoc ?_
      refine Wc.region ?_
      refine Wk.q rfl rfl rfl (Qk.move rfl) ?_
      refine Wk.q rfl rfl rfl (Qk.assign rfl) ?_
      refine Wk.q rfl rfl rfl (Qk.assign rfl) ?_
      refine Wk.next ?_
      refine Wc.done'' (fun _ _ => rfl) rfl ?_
      have hge : t = M.length := by
        have : ¬ ((t : Int) < (b.length : Int)) := of_decide_eq_false h70
        omega
      subst hge
      exact ⟨ov, rfl, hmo.mrow_lk hO hInv, ⟨_, o, hO, hInv⟩, ho13.trans hob⟩
    · -- t70 = True
      have htl : t < M.length := by
        have : (t : Int) < (b.length : Int) := of_decide_eq_true h70
        omega
      have hdg : fw (link (matM M) o) t t t = 0 := fw_diag link_self (opt_circle hO hInv) ht htl
      have hfb : ∀ x y, x < M.length → y < M.length → -64000000 ≤ fw (link (matM M) o) t x y ∧ fw (link (matM M) o) t x y ≤ 64000000 := fun x y hx hy => fw_bound hlk (by omega) (by omega) hx hy
      refine Wk.next ?_
      refine Wc.assoc ?_
      refine Wc.condT rfl ?_
      refine Wc.skip ?_
      refine Wc.assoc ?_
      refine Wc.block ?_
      refine Wc.assoc ?_
      refine Wc.region ?_
      refine Wk.q rfl rfl rfl (Qk.move rfl) ?_
      refine Wk.q rfl rfl rfl (Qk.assign rfl) ?_
      refine Wk.next ?_
      refine Wc.assoc ?_
      refine Wc.region ?_
      refine Wk.q rfl rfl rfl (Qk.move rfl) ?_
      refine Wk.q rfl rfl rfl (Qk.move rfl) ?_
      refine Wk.next ?_
      refine Wc.block ?_
      refine Wc.loop (σ := Nat × St) (fun y => y.1 ≤ M.length ∧ Old t2 y.2 ∧ MOwn y.2 t2.size ov M.length bt rw' cw (fun j => lrow M.length (stg (link (matM M) o) t y.1 0 j)))
        (fun y => [(8, goInt b.length), (9, ov), (14, .int .i64 t), (68, goInt b.length), (69, .int .i64 t), (72, goInt b.length), (73, .int .i64 y.1)]) (fun y => y.2) (fun y => M.length - y.1) (0, sb)
        ⟨Nat.zero_le _, hob, hmo.congr fun x hx => lrow_congr fun y hy => by simp [stg]⟩ ⟨rfl, rfl, rfl, rfl, rfl, rfl, rfl, trivial⟩ rfl ?_
      clear hmo hob
      rintro ⟨j, sc⟩ ⟨hj, hoc, hmo⟩
      dsimp only at hj hoc hmo ⊢
      refine Wc.assoc ?_
      refine Wc.region ?_
      refine Wk.b rfl rfl rfl (Qk.bin rfl rfl rfl) fun b h74 => ?_
      cases b
      · -- t74 = False
        refine Wk.next ?_
        refine Wc.assoc ?_
        refine Wc.condF rfl ?_
        refine Wc.jump (fun _ _ => rfl) ?_
        refine Wc.thence (fun _ _ => rfl) ?_
        refine Wc.region ?_
        refine Wk.q rfl rfl rfl (Qk.add rfl rfl (by omega)) ?_
        refine Wk.q rfl rfl rfl (Qk.move rfl) ?_
        refine Wk.next ?_
        refine Wc.finish fun fr hf => ?_
        have hge : j = M.length := by
          have : ¬ ((j : Int) < (b.length : Int)) := of_decide_eq_false h74
          omega
        subst hge
        exact ⟨(t + 1, sc), ⟨htl, hoc, hmo.congr fun x hx => lrow_congr fun y hy => by simp only [stg]; rw [if_pos (.inl hx)]⟩, by dsimp only; omega, rfl, hf.less ⟨rfl, rfl, rfl, rfl, trivial⟩⟩
      · -- t74 = True
        have hjl : j < M.length := by
          have : (j : Int) < (b.length : Int) := of_decide_eq_true h74
          omega
        refine Wk.next ?_
        refine Wc.assoc ?_
        refine Wc.condT rfl ?_
        refine Wc.skip ?_
        refine Wc.assoc ?_
        refine Wc.block ?_
        refine Wc.assoc ?_
        refine Wc.region ?_
        refine Wk.q rfl rfl rfl (Qk.move rfl) ?_
        refine Wk.q rfl rfl rfl (Qk.assign rfl) ?_
        refine Wk.next ?_
        refine Wc.assoc ?_
        refine Wc.region ?_
        refine Wk.q rfl rfl rfl (Qk.move rfl) ?_
        refine Wk.q rfl rfl rfl (Qk.move rfl) ?_
        refine Wk.next ?_
        refine Wc.block ?_
        refine Wc.loop (σ := Nat × St) (fun y => y.1 ≤ M.length ∧ Old t2 y.2 ∧ MOwn y.2 t2.size ov M.length bt rw' cw (fun x => lrow M.length (stg (link (matM M) o) t j y.1 x)))
          (fun y => [(8, goInt b.length), (9, ov), (14, .int .i64 t), (15, .int .i64 j), (68, goInt b.length), (69, .int .i64 t), (72, goInt b.length), (73, .int .i64 j), (76, goInt b.length), (77, .int .i64 y.1)]) (fun y => y.2) (fun y => M.length - y.1) (0, sc)
          ⟨Nat.zero_le _, hoc, hmo⟩ ⟨rfl, rfl, rfl, rfl, rfl, rfl, rfl, rfl, rfl, rfl, trivial⟩ rfl ?_
        clear hmo hoc
        rintro ⟨k, sd⟩ ⟨hk, hod, hmo⟩
        dsimp only at hk hod hmo ⊢
        refine Wc.assoc ?_
        refine Wc.region ?_
        refine Wk.b rfl rfl rfl (Qk.bin rfl rfl rfl) fun b h78 => ?_
        cases b
        · -- t78 = False
          refine Wk.next ?_
          refine Wc.assoc ?_
          refine Wc.condF rfl ?_
          refine Wc.jump (fun _ _ => rfl) ?_
          refine Wc.thence (fun _ _ => rfl) ?_
          refine Wc.region ?_
          refine Wk.q rfl rfl rfl (Qk.add rfl rfl (by omega)) ?_
          refine Wk.q rfl rfl rfl (Qk.move rfl) ?_
          refine Wk.next ?_
          refine Wc.finish fun fr hf => ?_
          have hge : k = M.length := by
            have : ¬ ((k : Int) < (b.length : Int)) := of_decide_eq_false h78
            omega
          subst hge
          exact ⟨(j + 1, sd), ⟨hjl, hod, hmo.congr fun x hx => lrow_congr fun y hy => stg_next hy⟩, by dsimp only; omega, rfl, hf.less ⟨rfl, rfl, rfl, rfl, rfl, rfl, rfl, trivial⟩⟩
        · -- t78 = True
          have hkl : k < M.length := by
            have : (k : Int) < (b.length : Int) := of_decide_eq_true h78
            omega
          have hO := hmo.orow
          have hOj := hmo.irow hjl
          have hOt := hmo.irow htl
          have hlen : ∀ f, (lrow M.length f).length = M.length := lrow_len
          have hlj := hlen (stg (link (matM M) o) t j k j)
          have hlt := hlen (stg (link (matM M) o) t j k t)
          have v1 : (lrow M.length (stg (link (matM M) o) t j k j)).getD k 0 = fw (link (matM M) o) t j k := by rw [lrow_get hkl]; simp [stg]
          have v2 : (lrow M.length (stg (link (matM M) o) t j k j)).getD t 0 = fw (link (matM M) o) t j t := by rw [lrow_get htl]; exact stg_col hdg
          have v3 : (lrow M.length (stg (link (matM M) o) t j k t)).getD k 0 = fw (link (matM M) o) t t k := by rw [lrow_get hkl]; exact stg_row hdg
          have b2 := hfb j t hjl htl
          have b3 := hfb t k htl hkl
          refine Wk.next ?_
          refine Wc.assoc ?_
          refine Wc.condT rfl ?_
          refine Wc.skip ?_
          refine Wc.assoc ?_
          refine Wc.block ?_
          refine Wc.assoc ?_
          refine Wc.region ?_
          refine Wk.q rfl rfl rfl (Qk.move rfl) ?_
          refine Wk.q rfl rfl rfl (Qk.assign rfl) ?_
          refine Wk.next ?_
          refine Wc.draw0 rfl ?_
          refine Wd.q rfl rfl rfl (Qk.move rfl) ?_
          refine Wd.q rfl rfl rfl (Qk.move rfl) ?_
          refine Wd.q rfl rfl rfl (Qk.at rfl rfl ar22 sl22 hO (by constructor <;> omega)) ?_
          refine Wd.r rfl rfl rfl (Rk.atS rfl sh29 hO (i := j) (by omega) rfl) (by kernel_rfl) ?_
          refine Wd.q rfl rfl rfl (Qk.move rfl) ?_
          refine Wd.q rfl rfl rfl (Qk.move rfl) ?_
          refine Wd.q rfl rfl rfl (Qk.move rfl) ?_
          refine Wd.q rfl rfl rfl (Qk.at rfl rfl ar22 sl22 hO (by constructor <;> omega)) ?_
          refine Wd.r rfl rfl rfl (Rk.atS rfl sh29 hO (i := j) (by omega) rfl) (by kernel_rfl) ?_
          refine Wd.q rfl rfl rfl (Qk.move rfl) ?_
          refine Wd.q rfl rfl rfl (Qk.at rfl rfl ar29 sl29 hOj (by constructor <;> omega)) ?_
          refine Wd.r rfl rfl rfl (Rk.intR rfl sh3 hOj (i := k) (by omega)) (by kernel_rfl) ?_
          refine Wd.q rfl rfl rfl (Qk.move rfl) ?_
          refine Wd.q rfl rfl rfl (Qk.move rfl) ?_
          refine Wd.q rfl rfl rfl (Qk.at rfl rfl ar22 sl22 hO (by constructor <;> omega)) ?_
          refine Wd.r rfl rfl rfl (Rk.atS rfl sh29 hO (i := j) (by omega) rfl) (by kernel_rfl) ?_
          refine Wd.q rfl rfl rfl (Qk.move rfl) ?_
          refine Wd.q rfl rfl rfl (Qk.at rfl rfl ar29 sl29 hOj (by constructor <;> omega)) ?_
          refine Wd.r rfl rfl rfl (Rk.intR rfl sh3 hOj (i := t) (by omega)) (by kernel_rfl) ?_
          refine Wd.q rfl rfl rfl (Qk.move rfl) ?_
          refine Wd.q rfl rfl rfl (Qk.move rfl) ?_
          refine Wd.q rfl rfl rfl (Qk.at rfl rfl ar22 sl22 hO (by constructor <;> omega)) ?_
          refine Wd.r rfl rfl rfl (Rk.atS rfl sh29 hO (i := t) (by omega) rfl) (by kernel_rfl) ?_
          refine Wd.q rfl rfl rfl (Qk.move rfl) ?_
          refine Wd.q rfl rfl rfl (Qk.at rfl rfl ar29 sl29 hOt (by constructor <;> omega)) ?_
          refine Wd.r rfl rfl rfl (Rk.intR rfl sh3 hOt (i := k) (by omega)) (by kernel_rfl) ?_
          refine Wd.q rfl rfl rfl (Qk.add rfl rfl (by omega)) ?_
          refine Wd.q rfl rfl rfl (Qk.max2 rfl rfl rfl) ?_
          refine Wd.q rfl rfl rfl (Qk.at rfl rfl ar29 sl29 hOj (by constructor <;> omega)) ?_
          obtain ⟨s', hst1, hmo', hsame⟩ := hmo.set (i := j) (k := k) (u := if fw (link (matM M) o) t j t + fw (link (matM M) o) t t k > fw (link (matM M) o) t j k then fw (link (matM M) o) t j t + fw (link (matM M) o) t t k else fw (link (matM M) o) t j k) hjl (by rw [hlen]; exact hkl)
          rw [← v1, ← v2, ← v3] at hst1
          refine Wd.h rfl rfl rfl (Hk.store rfl rfl hst1) (by kernel_rfl) (by kernel_rfl) ?_
          refine Wd.next ?_
          refine Wc.store fun s2 e2 => ?_
          subst e2
          have hod' : Old t2 s2 := Same.older hod hsame (by intro x hx; simp at hx; subst hx; exact hmo.bases j hjl)
          refine Wc.thence (fun _ _ => rfl) ?_
          refine Wc.region ?_
          refine Wk.q rfl rfl rfl (Qk.add rfl rfl (by omega)) ?_
          refine Wk.q rfl rfl rfl (Qk.move rfl) ?_
          refine Wk.next ?_
          refine Wc.finish fun fr hf => ?_
          exact ⟨(k + 1, s2), ⟨hkl, hod', hmo'.congr fun x hx => by
            by_cases e : x = j
            · subst e
              rw [if_pos rfl, lrow_set]
              exact lrow_congr fun y hy => (stg_step (by simp only [fw]; omega)).symm
            · rw [if_neg e]
              exact lrow_congr fun y hy => stg_other e⟩, by dsimp only; omega, rfl, hf.less ⟨rfl, rfl, rfl, rfl, rfl, rfl, rfl, rfl, rfl, rfl, trivial⟩⟩
  · -- t33 = True
    have hjl : j < M.length := by
      have : (j : Int) < (b.length : Int) := of_decide_eq_true h33
      omega
    refine Wk.next ?_
    refine Wc.assoc ?_
    refine Wc.condT rfl ?_
    refine Wc.skip ?_
    refine Wc.assoc ?_
    refine Wc.block ?_
    refine Wc.assoc ?_
    refine Wc.region ?_
    refine Wk.q rfl rfl rfl (Qk.move rfl) ?_
    refine Wk.q rfl rfl rfl (Qk.assign rfl) ?_
    refine Wk.next ?_
    refine Wc.assoc ?_
    refine Wc.region ?_
    refine Wk.q rfl rfl rfl (Qk.move rfl) ?_
    refine Wk.q rfl rfl rfl (Qk.move rfl) ?_
    refine Wk.c rfl rfl rfl (Ck.call rfl rfl) ((c29 hK (hb.old hoa) (by omega) ⟨o j, by rw [hll]; exact hInv.lt j hjl, by have := hInv.at' j hjl; unfold asgOf at this; have := hA.nonneg (o j) (hInv.lt j hjl); omega⟩).mono ?_)
    rintro r4 sa ⟨ow, how, rfl, hwj, rfl⟩
    have howj : ow = o j := by
      refine hA.asg.inj _ _ (by omega) (hInv.lt j hjl) ?_
      rw [hInv.at' j hjl]
      unfold asgOf
      omega
    rw [howj]
    have how := howj ▸ how
    clear hwj howj
    have hol := hInv.lt j hjl
    have hsq := hB.square (o j) hol
    refine Wk.q rfl rfl rfl (Qk.assign rfl) ?_
    refine Wk.next ?_
    refine Wc.assoc ?_
    refine Wc.region ?_
    refine Wk.q rfl rfl rfl (Qk.assign rfl) ?_
    refine Wk.next ?_
    refine Wc.assoc ?_
    refine Wc.assoc ?_
    refine Wc.region ?_
    refine Wk.q rfl rfl rfl (Qk.move rfl) ?_
    refine Wk.q rfl rfl rfl (Qk.move rfl) ?_
    refine Wk.next ?_
    refine Wc.block ?_
    refine Wc.loop (σ := Nat × Value × Option Nat × St) (fun y => y.1 ≤ M.length ∧ Old sa y.2.2.2 ∧ Grew y.2.2.2 sa.size y.2.1 1 y.1 (ic (lrow y.1 (link (matM M) o j))) y.2.2.1)
      (fun y => [(1, .pointer (some ⟨s.size, 0, none⟩)), (5, .slice (some ⟨cb, 0, none⟩) b.length cap), (8, goInt b.length), (9, ov), (10, .int .i64 j), (11, .int .i64 (o j : Nat)), (12, y.2.1), (31, goInt b.length), (32, .int .i64 j), (38, goInt b.length), (39, .int .i64 y.1)]) (fun y => y.2.2.2) (fun y => M.length - y.1) (0, .slice none 0 0, none, sa)
      ⟨Nat.zero_le _, Old.refl _, Grew.nil⟩ ⟨rfl, rfl, rfl, rfl, rfl, rfl, rfl, rfl, rfl, rfl, rfl, trivial⟩ rfl ?_
    rintro ⟨k, rowv, bo2, sb⟩ ⟨hk, hosb, hgr⟩
    dsimp only at hk hosb hgr ⊢
    have hob : Old t2 sb := hoa.trans hosb
    refine Wc.assoc ?_
    refine Wc.region ?_
    refine Wk.b rfl rfl rfl (Qk.bin rfl rfl rfl) fun b h40 => ?_
    cases b
    · -- t40 = False
      have hge : k = M.length := by
        have : ¬ ((k : Int) < (b.length : Int)) := of_decide_eq_false h40
        omega
      subst hge
      obtain ⟨cn, rfl, hcn, hrown⟩ : ∃ c, bo2 = some c ∧ sa.size ≤ c ∧ OwnAt sb rowv 1 M.length c (ic (lrow M.length (link (matM M) o j))) := by
        rcases hgr with ⟨_, _, h, _⟩ | ⟨c, h1, h2, h3⟩
        · omega
        · exact ⟨c, h1, h2, h3⟩
      have hrown0 := hrown
      obtain ⟨capr, mdr, csr, hre, _⟩ := hrown0
      subst hre
      refine Wk.next ?_
      refine Wc.assoc ?_
      refine Wc.condF rfl ?_
      refine Wc.jump (fun _ _ => rfl) ?_
      refine Wc.region ?_
      refine Wk.q rfl rfl rfl (Qk.move rfl) ?_
      refine Wk.q rfl rfl rfl (Qk.move rfl) ?_
      refine Wk.f rfl rfl rfl (Fk.one rfl rfl sl22 ze29 rfl rfl rfl (by decide)) ?_
      refine Wk.store' fun s3 e3 => ?_
      have ho3' : Old sb s3 := by subst e3; exact Old.push _ _
      have hg3' : s3.get sb.size = some ⟨[.slice (some ⟨cn, 0, none⟩) M.length capr], .rw⟩ := by subst e3; exact gnew
      have hmg3 := (hmg.old hosb).old ho3'
      have hrown3 := hrown.old ho3'
      obtain ⟨ov', t5, b5, hap, hgr5, hb5, hsame5⟩ := append_val ap22 hmg3.top (by have := hoa.1; have := hosb.1; have := ho3'.1; omega) hg3' (by simp) rfl (by have := hB.most; omega)
      refine Wk.h rfl rfl rfl (Hk.append rfl rfl rfl rfl (by first | exact hap | assumption)) ?_
      refine Wk.q rfl rfl rfl (Qk.assign rfl) ?_
      refine Wk.next ?_
      refine Wc.store fun s4 e4 => ?_
      subst e4
      have hmg5 := hmg3.snoc hgr5 hb5 hsame5 hrown3 (lrow_len _).symm (by have := hoa.1; omega) (fun i hi => by have h1 := (hmg.rows i hi).lt; omega) (by intro c hc hcc; cases hcc; have := hmg.top.lt' hc; omega) (by intro e; have := hrown.lt; have := ho3'.1; omega)
      refine Wc.thence (fun _ _ => rfl) ?_
      refine Wc.region ?_
      refine Wk.q rfl rfl rfl (Qk.add rfl rfl (by omega)) ?_
      refine Wk.q rfl rfl rfl (Qk.move rfl) ?_
      refine Wk.next ?_
      refine Wc.finish fun fr hf => ?_
      refine ⟨(j + 1, ov', some b5, _, _, s4), ⟨hjl, Same.older (hoa.trans (hosb.trans ho3')) hsame5 (by intro x hx; cases bo with | none => simp at hx | some d => simp at hx; subst hx; exact hmg.top.ge rfl), hmg5⟩, by dsimp only; omega, rfl, hf.less ⟨rfl, rfl, rfl, rfl, rfl, rfl, trivial⟩⟩
    · -- t40 = True
      have hkl : k < M.length := by
        have : (k : Int) < (b.length : Int) := of_decide_eq_true h40
        omega
      refine Wk.next ?_
      refine Wc.assoc ?_
      refine Wc.condT rfl ?_
      refine Wc.skip ?_
      refine Wc.assoc ?_
      refine Wc.block ?_
      refine Wc.assoc ?_
      refine Wc.region ?_
      refine Wk.q rfl rfl rfl (Qk.move rfl) ?_
      refine Wk.q rfl rfl rfl (Qk.assign rfl) ?_
      refine Wk.next ?_
      refine Wc.draw ?_
      refine Wd.store' fun s5 e5 => ?_
      have ho5 : Old sb s5 := by subst e5; exact Old.reserve _ _
      have hgb5 : s5.get s.size = some ⟨[v, .int .i64 rent], .rw⟩ := ho5.get (hob.get hg3)
      have hd5 : s5.get (sb.size + 18) = some ⟨[], .dead⟩ := by subst e5; exact gnone (by decide)
      have hos5 : Old s s5 := (ho13.trans hob).trans ho5
      have hrw1 : IRow s5 (rv (o j)) (rowM M (o j)) := (hrow (o j) hol).old hos5
      have hr1 := hB.range (o j) k hol hkl
      have hr2 := hB.range (o j) j hol hjl
      have hr1' : 0 ≤ (rowM M (o j)).getD k 0 ∧ (rowM M (o j)).getD k 0 ≤ 1000000 := hr1
      have hr2' : 0 ≤ (rowM M (o j)).getD j 0 ∧ (rowM M (o j)).getD j 0 ≤ 1000000 := hr2
      refine Wd.q rfl rfl rfl (Qk.move rfl) ?_
      refine Wd.q rfl rfl rfl (Qk.fa rfl fd24_0) ?_
      refine Wd.r rfl rfl rfl (Rk.cell rfl sh22 (by first | assumption | repeat (first | exact gnew | exact gsetn gnew | assumption | exact gsetn (by assumption) | refine gpush ?_ | refine gset ?_ (by simp; omega) )) (by simp) rfl) (by kernel_rfl) ?_
      refine Wd.q rfl rfl rfl (Qk.move rfl) ?_
      refine Wd.q rfl rfl rfl (Qk.at rfl rfl ar22 sl22 (hR.old (by assumption)) (by constructor <;> omega)) ?_
      refine Wd.r rfl rfl rfl (Rk.atS rfl sh29 (hR.old (by assumption)) (i := (o j)) (by omega) rfl) (by kernel_rfl) ?_
      refine Wd.q rfl rfl rfl (Qk.move rfl) ?_
      refine Wd.q rfl rfl rfl (Qk.at rfl rfl ar29 sl29 hrw1 (by constructor <;> omega)) ?_
      refine Wd.r rfl rfl rfl (Rk.intR rfl sh3 hrw1 (i := k) (by omega)) (by kernel_rfl) ?_
      refine Wd.q rfl rfl rfl (Qk.fa rfl fd24_0) ?_
      refine Wd.r rfl rfl rfl (Rk.cell rfl sh22 (by first | assumption | repeat (first | exact gnew | exact gsetn gnew | assumption | exact gsetn (by assumption) | refine gpush ?_ | refine gset ?_ (by simp; omega) )) (by simp) rfl) (by kernel_rfl) ?_
      refine Wd.q rfl rfl rfl (Qk.move rfl) ?_
      refine Wd.q rfl rfl rfl (Qk.at rfl rfl ar22 sl22 (hR.old (by assumption)) (by constructor <;> omega)) ?_
      refine Wd.r rfl rfl rfl (Rk.atS rfl sh29 (hR.old (by assumption)) (i := (o j)) (by omega) rfl) (by kernel_rfl) ?_
      refine Wd.q rfl rfl rfl (Qk.move rfl) ?_
      refine Wd.q rfl rfl rfl (Qk.at rfl rfl ar29 sl29 hrw1 (by constructor <;> omega)) ?_
      refine Wd.r rfl rfl rfl (Rk.intR rfl sh3 hrw1 (i := j) (by omega)) (by kernel_rfl) ?_
      refine Wd.q rfl rfl rfl (Qk.sub rfl rfl (by omega)) ?_
      refine Wd.f rfl rfl rfl (Fk.one rfl rfl sl29 ze3 rfl rfl rfl (by decide)) ?_
      refine Wd.store' fun s6 e6 => ?_
      have ho6 : Old sb s6 := by subst e6; exact (ho5.same []).old.gset (by omega)
      have hone : IRow s6 (.slice (some ⟨sb.size + 18, 0, none⟩) 1 1) [(rowM M (o j)).getD k 0 - (rowM M (o j)).getD j 0] := by subst e6; exact IRow.of_get (l := [(rowM M (o j)).getD k 0 - (rowM M (o j)).getD j 0]) (gsetn hd5) (by simp) (Nat.le_refl _)
      obtain ⟨rv', t7, bo7, hap, hgr7, hb7, hsame7⟩ := append_ints ap29 (hgr.same (ho6.same []) (by simp)) (by have := hosb.1; have := ho6.1; omega) hone (by have := hB.most; simp; omega)
      refine Wd.h rfl rfl rfl (Hk.append rfl rfl rfl rfl (by first | exact hap | assumption)) (by kernel_rfl) (by kernel_rfl) ?_
      refine Wd.q rfl rfl rfl (Qk.assign rfl) ?_
      refine Wd.next ?_
      refine Wc.store fun s7 e7 => ?_
      subst e7
      refine Wc.thence (fun _ _ => rfl) ?_
      refine Wc.region ?_
      refine Wk.q rfl rfl rfl (Qk.add rfl rfl (by omega)) ?_
      refine Wk.q rfl rfl rfl (Qk.move rfl) ?_
      refine Wk.next ?_
      refine Wc.finish fun fr hf => ?_
      refine ⟨(k + 1, rv', bo7, s7), ⟨hkl, Same.older (hosb.trans ho6) hsame7 (by intro x hx; cases bo2 with | none => simp at hx | some d => simp at hx; subst hx; exact hgr.ge rfl), ?_⟩, by dsimp only; omega, rfl, hf.less ⟨rfl, rfl, rfl, rfl, rfl, rfl, rfl, rfl, rfl, rfl, rfl, trivial⟩⟩
      have e : ic (lrow (k + 1) (link (matM M) o j)) = ic (lrow k (link (matM M) o j)) ++ ic [(rowM M (o j)).getD k 0 - (rowM M (o j)).getD j 0] := by
        rw [lrow_succ]
        simp [ic, link, matM]
      dsimp only
      rw [e]
      exact hgr7
end Go.Proofs.Ytfgnjndicidpkaa
