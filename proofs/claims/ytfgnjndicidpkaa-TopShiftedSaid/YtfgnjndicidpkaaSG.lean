/- Is a list an assignment? Its numbers are collected and sorted. -/
import Derived.Test.YtfgnjndicidpkaaSF
import Derived.Test.YtfgnjndicidpkaaR3
namespace Go.Proofs.Ytfgnjndicidpkaa
open Go.Abs
variable {K : Known}

/-- A list of all numbers below n in some order. -/
def P0 (n : Nat) (l : List Int) : Prop := l.length = n ∧ (∀ k, k < n → 0 ≤ l.getD k 0 ∧ l.getD k 0 < n) ∧ ∀ i j, i < n → j < n → l.getD i 0 = l.getD j 0 → i = j
theorem AsgL.p0 {n : Nat} {b : List Int} (h : AsgL n b) : P0 n b := by
  refine ⟨h.len, fun k hk => ⟨h.nonneg k hk, ?_⟩, fun i j hi hj e => h.asg.inj i j hi hj (by unfold asgOf; rw [e])⟩
  have h1 := h.asg.lt k hk
  have h2 := h.nonneg k hk
  unfold asgOf at h1
  omega
theorem sorted_id {n : Nat} {l : List Int} (h : P0 n l) (hs : ∀ p q, p < q → q < n → l.getD p 0 < l.getD q 0) : ∀ k, k < n → l.getD k 0 = k := by
  have lo : ∀ k, k < n → (k : Int) ≤ l.getD k 0 := by
    intro k
    induction k with
    | zero => intro hk; have := (h.2.1 0 hk).1; omega
    | succ k ih => intro hk; have := ih (by omega); have := hs k (k + 1) (by omega) hk; omega
  have hi : ∀ m k, m + k + 1 = n → l.getD k 0 ≤ k := by
    intro m
    induction m with
    | zero => intro k e; have := (h.2.1 k (by omega)).2; omega
    | succ m ih => intro k e; have := ih (k + 1) (by omega); have := hs k (k + 1) (by omega) (by omega); omega
  intro k hk
  have := lo k hk
  have := hi (n - 1 - k) k (by omega)
  omega
theorem sort_stop {n i j : Nat} {l : List Int} (h : P0 n l) (hi : i < n) (hj : j ≤ i) (hp : 0 < j) (hs : ∀ p q, p < q → q ≤ i → q ≠ j → l.getD p 0 < l.getD q 0) (hno : ¬ l.getD j 0 < l.getD (j - 1) 0) : ∀ p q, p < q → q < i + 1 → l.getD p 0 < l.getD q 0 := by
  intro p q h1 h2
  by_cases e : q = j
  · subst e
    have hne : l.getD q 0 ≠ l.getD (q - 1) 0 := fun e => by have := h.2.2 q (q - 1) (by omega) (by omega) e; omega
    by_cases e2 : p = q - 1
    · subst e2; omega
    · have := hs p (q - 1) (by omega) (by omega) (by omega); omega
  · exact hs p q h1 (by omega) e
theorem sort_swap {n i j : Nat} {l : List Int} (h : P0 n l) (hi : i < n) (hj : j ≤ i) (hp : 0 < j) (hs : ∀ p q, p < q → q ≤ i → q ≠ j → l.getD p 0 < l.getD q 0) (hlt : l.getD j 0 < l.getD (j - 1) 0) :
    P0 n ((l.set j (l.getD (j - 1) 0)).set (j - 1) (l.getD j 0)) ∧ ∀ p q, p < q → q ≤ i → q ≠ j - 1 → ((l.set j (l.getD (j - 1) 0)).set (j - 1) (l.getD j 0)).getD p 0 < ((l.set j (l.getD (j - 1) 0)).set (j - 1) (l.getD j 0)).getD q 0 := by
  have hl := h.1
  have hg : ∀ k, ((l.set j (l.getD (j - 1) 0)).set (j - 1) (l.getD j 0)).getD k 0 = if j - 1 = k then l.getD j 0 else if j = k then l.getD (j - 1) 0 else l.getD k 0 := by
    intro k
    rw [getD_set (by simp; omega), getD_set (by omega)]
  refine ⟨⟨by simp [hl], fun k hk => ?_, fun x y hx hy e => ?_⟩, fun p q h1 h2 h3 => ?_⟩
  · rw [hg]
    split
    · exact h.2.1 _ (by omega)
    · split
      · exact h.2.1 _ (by omega)
      · exact h.2.1 _ hk
  · rw [hg, hg] at e
    have hg2 : ∀ k, (if j - 1 = k then l.getD j 0 else if j = k then l.getD (j - 1) 0 else l.getD k 0) = l.getD (if j - 1 = k then j else if j = k then j - 1 else k) 0 := by
      intro k
      split
      · rfl
      · split <;> rfl
    rw [hg2, hg2] at e
    have hb : ∀ k, k < n → (if j - 1 = k then j else if j = k then j - 1 else k) < n := by
      intro k hk
      split
      · omega
      · split <;> omega
    have t := h.2.2 _ _ (hb x hx) (hb y hy) e
    split at t <;> split at t <;> (try split at t) <;> (try split at t) <;> omega
  · rw [hg, hg]
    by_cases e1 : j - 1 = p
    · rw [if_pos e1, if_neg (by omega)]
      by_cases e2 : j = q
      · rw [if_pos e2]; exact hlt
      · rw [if_neg e2]; exact hs j q (by omega) h2 (by omega)
    · rw [if_neg e1, if_neg (by omega : ¬ j - 1 = q)]
      by_cases e2 : j = p
      · rw [if_pos e2, if_neg (by omega)]; exact hs (j - 1) q (by omega) h2 (by omega)
      · rw [if_neg e2]
        by_cases e3 : j = q
        · rw [if_pos e3]; exact hs p (j - 1) (by omega) (by omega) (by omega)
        · rw [if_neg e3]; exact hs p q h1 h2 (fun e => e3 e.symm)

/-- A cell of a slice of one's own is changed. -/
theorem own_store {P : Program} {s : St} {t : TypeId} {v : Value} {n b i : Nat} {l : List Int} {u : Int} (hsh : shapeOf P t = some (false, 1)) (h : OwnAt s v 1 n b (ic l)) (hi : i < n) :
    ∃ s', astore P s t (.int .i64 u) (ptr v (i * 1)) = some s' ∧ OwnAt s' v 1 n b (ic (l.set i u)) ∧ Same [b] s s' := by
  obtain ⟨cap, md, cs, rfl, h2, h4, h5, h6, h7⟩ := h
  have hw : md.writable = true := by rcases h5 with rfl | ⟨rfl, _⟩ <;> rfl
  have hic : i < cs.length := by omega
  refine ⟨s.set b ⟨cs.set i (.int .i64 u), md⟩, ?_, ⟨cap, md, _, rfl, h2, gsetn h4, h5, by simpa using h6, ?_⟩, (Same.refl _ _).set (.inr (by simp))⟩
  · simp only [astore, ptr, hsh, St.setCells]
    simp only [Value.cells, List.size_toArray, List.length_cons, List.length_nil, Nat.zero_add, if_true, h4, Nat.mul_one]
    rw [if_pos (by simp [hw, scalar]; omega), splice_eq (by simp; omega)]
    simp [List.set_eq_take_append_cons_drop, hic]
  · rw [← ic_set, ← h7, List.take_set]

theorem Known.cl {f : FuncId} {a b : Array Value} {args : List Value} (h : 0 < b.size) : known K (.func (.func f) a b) args = none := by
  simp only [known]
  rw [if_neg]
  simp
  intro _ e
  rw [e] at h
  exact absurd h (by decide)

set_option maxRecDepth 100000 in
theorem c64 {l : List Int} {pb : Nat} {v yv : Value} {J : Nat → St → Prop} {s : St} (hl : l.length ≤ 1000) (hJ : ∀ i t, i ≤ l.length → J i t → t.get pb = some ⟨[v], .rw⟩ ∧ IRow t v l) (hstep : ∀ i t, i < l.length → J i t → Ev Try.prog K yv [.int .i64 (l.getD i 0)] t fun r t' => r = .bool true ∧ J (i + 1) t') (h0 : J 0 s) :
    Ev Try.prog K (.func (.func 64) #[] #[.pointer (some ⟨pb, 0, none⟩)]) [yv] s fun _ t => J l.length t := by
  obtain ⟨hbox, hrw⟩ := hJ 0 s (Nat.zero_le _) h0
  refine Ev.enterK (Known.cl (by simp)) Try.func64 rfl rfl (Nat.le_of_ble_eq_true rfl) ?_
  refine Wc.tail ?_
  refine Wc.assoc ?_
  refine Wc.region ?_
  refine Wk.r rfl rfl rfl (Rk.cell rfl sh29 (by first | assumption | repeat (first | exact gnew | exact gsetn gnew | assumption | exact gsetn (by assumption) | refine gpush ?_ | refine gset ?_ (by simp; omega) )) (by simp) rfl) ?_
  refine Wk.q rfl rfl rfl (Qk.lenR rfl rfl rfl hrw sl29) ?_
  refine Wk.q rfl rfl rfl (Qk.move rfl) ?_
  refine Wk.next ?_
  refine Wc.block ?_
  refine Wc.loop (σ := Nat × St) (fun y => y.1 ≤ l.length ∧ J y.1 y.2) (fun y => [(0, yv), (5, v), (6, goInt l.length), (7, .int .i64 y.1)]) (fun y => y.2) (fun y => l.length - y.1) (0, s) ⟨Nat.zero_le _, h0⟩ ⟨rfl, rfl, rfl, rfl, trivial⟩ rfl ?_
  clear hrw hbox h0
  rintro ⟨i, sa⟩ ⟨hi, hJi⟩
  dsimp only at hi hJi ⊢
  obtain ⟨hbox, hrw⟩ := hJ i sa hi hJi
  refine Wc.assoc ?_
  refine Wc.region ?_
  refine Wk.b rfl rfl rfl (Qk.bin rfl rfl rfl) fun b h8 => ?_
  cases b
  · -- t8 = False
    refine Wk.next ?_
    refine Wc.assoc ?_
    refine Wc.condF rfl ?_
    refine Wc.jump (fun _ _ => rfl) ?_
    refine Wc.finish fun fr hf => ?_
    have hge : i = l.length := by
      have : ¬ ((i : Int) < (l.length : Int)) := of_decide_eq_false h8
      omega
    exact ⟨_, rfl, hge ▸ hJi⟩
  · -- t8 = True
    have hlt : i < l.length := by
      have : (i : Int) < (l.length : Int) := of_decide_eq_true h8
      omega
    refine Wk.next ?_
    refine Wc.assoc ?_
    refine Wc.condT rfl ?_
    refine Wc.skip ?_
    refine Wc.assoc ?_
    refine Wc.block ?_
    refine Wc.assoc ?_
    refine Wc.region ?_
    refine Wk.q rfl rfl rfl (Qk.at rfl rfl ar29 sl29 hrw (by constructor <;> omega)) ?_
    refine Wk.r rfl rfl rfl (Rk.intR rfl sh3 hrw (i := i) (by omega)) ?_
    refine Wk.q rfl rfl rfl (Qk.assign rfl) ?_
    refine Wk.next ?_
    refine Wc.assoc ?_
    refine Wc.region ?_
    refine Wk.q rfl rfl rfl (Qk.move rfl) ?_
    refine Wk.q rfl rfl rfl (Qk.move rfl) ?_
    refine Wk.c rfl rfl rfl (Ck.call rfl rfl) ((hstep i sa hlt hJi).mono ?_)
    rintro r t ⟨rfl, hJ'⟩
    skip
    refine Wk.b rfl rfl rfl (Qk.not rfl) fun b h14 => ?_
    obtain rfl : b = false := by exact h14.symm -- t14
    refine Wk.next ?_
    refine Wc.condF rfl ?_
    refine Wc.skip ?_
    refine Wc.thence (fun _ _ => rfl) ?_
    refine Wc.region ?_
    refine Wk.q rfl rfl rfl (Qk.add rfl rfl (by omega)) ?_
    refine Wk.q rfl rfl rfl (Qk.move rfl) ?_
    refine Wk.next ?_
    refine Wc.finish fun fr hf => ?_
    exact ⟨(i + 1, t), ⟨hlt, hJ'⟩, by dsimp only; omega, rfl, hf.less ⟨rfl, rfl, rfl, rfl, trivial⟩⟩
set_option maxRecDepth 100000 in
theorem c43 (hK : Late K) {a : Option Addr} {n cap : Nat} {s : St} : Ev Try.prog K (.func (.func 43) #[] #[]) [.slice a n cap] s fun r s' => r = .func (.func 64) #[] #[.pointer (some ⟨s.size, 0, none⟩)] ∧ s' = s.push ⟨[.slice a n cap], .rw⟩ := by
  refine Ev.enterK (hK.none (by decide) _) Try.func43 rfl rfl (Nat.le_of_ble_eq_true rfl) ?_
  refine Wc.tail ?_
  refine Wc.assoc ?_
  refine Wc.region ?_
  refine Wk.f rfl rfl rfl (Fk.box rfl rfl) ?_
  refine Wk.q rfl rfl rfl (Qk.assign rfl) ?_
  refine Wk.next ?_
  refine Wc.store fun s1 e1 => ?_
  refine Wc.assoc ?_
  refine Wc.region ?_
  refine Wk.q rfl rfl rfl (Qk.makeFunc rfl rfl) ?_
  refine Wk.q rfl rfl rfl (Qk.assign rfl) ?_
  refine Wk.next ?_
  refine Wc.done'' (fun _ _ => rfl) rfl ?_
  exact ⟨rfl, by subst e1; rfl⟩

set_option maxHeartbeats 1000000 in
set_option maxRecDepth 100000 in
theorem c73 (hK : Late K) {l : List Int} {pb : Nat} {v : Value} {s : St} (hv : IRow s v l) (hbox : s.get pb = some ⟨[v], .rw⟩) (hl : l.length ≤ 1000) :
    Ev Try.prog K (.func (.func 73) #[] #[]) [.slice none 0 0, .func (.func 64) #[] #[.pointer (some ⟨pb, 0, none⟩)]] s fun r s' => ∃ bo, Grew s' s.size r 1 l.length (ic l) bo ∧ Old s s' := by
  refine Ev.enterK (hK.none (by decide) _) Try.func73 rfl rfl (Nat.le_of_ble_eq_true rfl) ?_
  refine Wc.tail ?_
  refine Wc.assoc ?_
  refine Wc.region ?_
  refine Wk.f rfl rfl rfl (Fk.box rfl rfl) ?_
  refine Wk.q rfl rfl rfl (Qk.assign rfl) ?_
  refine Wk.next ?_
  refine Wc.store fun s1 e1 => ?_
  have ho1 : Old s s1 := by subst e1; exact Old.push _ _
  have hb1 : s1.get s.size = some ⟨[.slice none 0 0], .rw⟩ := by subst e1; exact gnew
  refine Wc.assoc ?_
  refine Wc.assoc ?_
  refine Wc.region ?_
  refine Wk.q rfl rfl rfl (Qk.move rfl) ?_
  refine Wk.next ?_
  refine Wc.block ?_
  refine Wc.rangeFunc' rfl fun rc hf hps has hbd hst hpn => ?_
  refine (c64 (v := v) (J := fun i t => Old s t ∧ t.loop s1.nloops = some rc ∧ ∃ vi bo, t.get s.size = some ⟨[vi], .rw⟩ ∧ Grew t (s.size + 1) vi 1 i (ic (l.take i)) bo) hl ?_ ?_ ⟨ho1.trans (Old.pushLoop _ _), St.loop_pushLoop_new _ _, .slice none 0 0, none, hb1, by simpa [ic] using Grew.nil⟩).mono ?_
  · rintro i t hi ⟨ho, _, _⟩
    exact ⟨ho.get hbox, hv.old ho⟩
  · rintro i t hi ⟨ho, hlp, vi, bo, hb, hgr⟩
    have hge : ∀ c, bo = some c → s.size + 1 ≤ c := fun c h => hgr.ge h
    have hsz : s.size < t.size := St.get_lt hb
    have hnl : s.nloops ≤ s1.nloops := ho1.2.2.1
    refine Ev.yield' hlp hst (by rw [hps]) has hbd ?_
    refine (Wc.tail (k := (7, .int .i64 (l.getD i 0)) :: _) ?_ : Wc _ _ _ _ _ _ _) _ (hf.put (d := some 7) (v := .int .i64 (l.getD i 0)) (by intro x e; cases e; decide))
    refine Wc.region ?_
    refine Wk.q rfl rfl rfl (Qk.assign rfl) ?_
    refine Wk.next ?_
    refine Wc.finish fun fr2 hf2 => ⟨rfl, hlp, ?_⟩
    refine Wc.tail ?_ _ hf2
    refine Wc.block ?_
    have ho2 := ho.setLoop (r := { rc with state := .busy }) hnl
    have hb2 : (t.setLoop s1.nloops { rc with state := .busy }).get s.size = some ⟨[vi], .rw⟩ := by rw [get_setLoop]; exact hb
    have hgr2 := hgr.setLoop (l := s1.nloops) (r := { rc with state := .busy })
    have hlp2 : (t.setLoop s1.nloops { rc with state := .busy }).loop s1.nloops = some { rc with state := .busy } := St.loop_setLoop_same _ _ _ (St.loop_lt hlp)
    generalize t.setLoop s1.nloops { rc with state := .busy } = u at ho2 hb2 hgr2 hlp2 ⊢
    have hll2 := St.loop_lt hlp2
    refine Wc.region ?_
    refine Wk.r rfl rfl rfl (Rk.cell rfl sh29 hb2 (by simp) rfl) ?_
    refine Wk.q rfl rfl rfl (Qk.move rfl) ?_
    refine Wk.f rfl rfl rfl (Fk.one rfl rfl sl29 ze3 rfl rfl rfl (by decide)) ?_
    refine Wk.store' fun u1 e1' => ?_
    have hsame1 : Same [] u u1 := by subst e1'; exact (Same.refl _ _).push _
    have hb3 := hsame1.get hb2 (by simp)
    have hgr3 := hgr2.same hsame1 (by simp)
    have hone : IRow u1 (.slice (some ⟨u.size, 0, none⟩) 1 1) [l.getD i 0] := by subst e1'; exact IRow.of_get (l := [l.getD i 0]) gnew (by simp) (Nat.le_refl _)
    have hsz3 := St.get_lt hb3
    obtain ⟨nv, u2, bo2, hap, hgr4, hbo2, hsame2⟩ := append_ints ap29 hgr3 (by omega) hone (by simp; omega)
    have hb4 : u2.get s.size = some ⟨[vi], .rw⟩ := hsame2.get hb3 (by intro hm; cases bo with | none => simp at hm | some c => simp at hm; have := hge c rfl; omega)
    obtain ⟨hc1, hc2, hc3⟩ := hgr4.sc
    refine Wk.h rfl rfl rfl (Hk.append rfl rfl rfl rfl (by assumption)) ?_
    refine Wk.h rfl rfl rfl (Hk.cell rfl rfl sh29 hb4 (by simp) (by first | rfl | assumption) (by first | rfl | assumption)) ?_
    refine Wk.next ?_
    refine Wc.store fun u3 e3 => ?_
    have hsame3 : Same [s.size] u2 u3 := by subst e3; exact (Same.refl _ _).set (.inr (by simp))
    have hb5 : u3.get s.size = some ⟨[nv], .rw⟩ := by subst e3; exact gsetn hb4
    refine Wc.thence (fun _ _ => rfl) ?_
    refine Wc.finish fun fr3 hf3 => ⟨rfl, { rc with state := .busy }, ?_, ?_⟩
    · rw [hsame3.2.2.2 _ (by have := hsame1.2.2.1; have := hsame2.2.2.1; omega), hsame2.2.2.2 _ (by have := hsame1.2.2.1; omega), hsame1.2.2.2 _ hll2]
      exact hlp2
    · rw [rec_back hst hpn]
      have ho3 : Old s u3 := Same.older (Same.older (Same.older ho2 hsame1 (by simp)) hsame2 (by intro x hx; cases bo with | none => simp at hx | some c => simp at hx; have := hge c rfl; omega)) hsame3 (by simp)
      have hll3 : s1.nloops < u3.nloops := by have := hsame1.2.2.1; have := hsame2.2.2.1; have := hsame3.2.2.1; omega
      refine ⟨rfl, ho3.setLoop hnl, St.loop_setLoop_same _ _ _ hll3, nv, bo2, by rw [get_setLoop]; exact hb5, Grew.setLoop ?_⟩
      have e1 : l.take (i + 1) = l.take i ++ [l.getD i 0] := by rw [List.take_add_one]; simp [List.getD, hi]
      have e2 : ic (l.take (i + 1)) = ic (l.take i) ++ ic [l.getD i 0] := by rw [e1]; simp [ic]
      rw [e2]
      exact hgr4.same hsame3 (by intro c hc hm; have := hgr4.ge hc; simp at hm; omega)
  · rintro _ t ⟨ho, hlp, vi, bo, hb, hgr⟩
    refine ⟨hlp, ?_⟩
    have hnl : s.nloops ≤ s1.nloops := ho1.2.2.1
    have ho2 := ho.setLoop (r := { rc with state := .exhausted }) hnl
    have hb2 : (t.setLoop s1.nloops { rc with state := .exhausted }).get s.size = some ⟨[vi], .rw⟩ := by rw [get_setLoop]; exact hb
    have hgr2 := hgr.setLoop (l := s1.nloops) (r := { rc with state := .exhausted })
    generalize t.setLoop s1.nloops { rc with state := .exhausted } = u at ho2 hb2 hgr2 ⊢
    refine Wc.thence (fun _ _ => rfl) ?_
    refine Wc.assoc ?_
    refine Wc.region ?_
    refine Wk.r rfl rfl rfl (Rk.cell rfl sh29 hb2 (by simp) rfl) ?_
    refine Wk.q rfl rfl rfl (Qk.assign rfl) ?_
    refine Wk.next ?_
    refine Wc.done'' (fun _ _ => rfl) rfl ?_
    rw [List.take_length] at hgr2
    rcases hgr2 with ⟨h1, h2, h3, h4⟩ | ⟨c, h1, h2, h3⟩
    · exact ⟨none, .inl ⟨rfl, by simp [pack, h2], h3, h4⟩, ho2⟩
    · exact ⟨some c, .inr ⟨c, rfl, by omega, h3⟩, ho2⟩

theorem c62 (hK : Late K) {l : List Int} {pb : Nat} {v : Value} {s : St} (hv : IRow s v l) (hbox : s.get pb = some ⟨[v], .rw⟩) (hl : l.length ≤ 1000) :
    Ev Try.prog K (.func (.func 62) #[] #[]) [.func (.func 64) #[] #[.pointer (some ⟨pb, 0, none⟩)]] s fun r s' => ∃ bo, Grew s' s.size r 1 l.length (ic l) bo ∧ Old s s' := by
  refine Ev.enterK (hK.none (by decide) _) Try.func62 rfl rfl (Nat.le_of_ble_eq_true rfl) ?_
  refine Wc.tail ?_
  refine Wc.assoc ?_
  refine Wc.region ?_
  refine Wk.q rfl rfl rfl (Qk.assign rfl) ?_
  refine Wk.next ?_
  refine Wc.assoc ?_
  refine Wc.region ?_
  refine Wk.q rfl rfl rfl (Qk.move rfl) ?_
  refine Wk.c rfl rfl rfl (Ck.call rfl rfl) ((c73 hK hv hbox hl).mono ?_)
  rintro r t h
  refine Wk.q rfl rfl rfl (Qk.assign rfl) ?_
  refine Wk.next ?_
  refine Wc.done'' (fun _ _ => rfl) rfl ?_
  exact h
theorem c93 (hK : Late K) {x : Int} {s : St} : Ev Try.prog K (.func (.func 93) #[] #[]) [.int .i64 x] s fun r s' => r = .bool false ∧ s' = s := by
  refine Ev.enterK (hK.none (by decide) _) Try.func93 rfl rfl (Nat.le_of_ble_eq_true rfl) ?_
  refine Wc.tail ?_
  refine Wc.assoc ?_
  refine Wc.region ?_
  refine Wk.q rfl rfl rfl (Qk.assign rfl) ?_
  refine Wk.next ?_
  refine Wc.assoc ?_
  refine Wc.region ?_
  refine Wk.q rfl rfl rfl (Qk.move rfl) ?_
  refine Wk.q rfl rfl rfl (Qk.move rfl) ?_
  refine Wk.q rfl rfl rfl (Qk.bin rfl rfl rfl) ?_
  refine Wk.q rfl rfl rfl (Qk.assign rfl) ?_
  refine Wk.next ?_
  refine Wc.done'' (fun _ _ => rfl) rfl ?_
  refine ⟨?_, rfl⟩
  simp [pack]
set_option maxRecDepth 100000 in
theorem c83 (hK : Late K) {x y : Int} {s : St} : Ev Try.prog K (.func (.func 83) #[] #[]) [.int .i64 x, .int .i64 y] s fun r s' => r = .bool (decide (x < y)) ∧ s' = s := by
  refine Ev.enterK (hK.none (by decide) _) Try.func83 rfl rfl (Nat.le_of_ble_eq_true rfl) ?_
  refine Wc.tail ?_
  refine Wc.assoc ?_
  refine Wc.region ?_
  refine Wk.q rfl rfl rfl (Qk.assign rfl) ?_
  refine Wk.next ?_
  refine Wc.assoc ?_
  refine Wc.region ?_
  refine Wk.q rfl rfl rfl (Qk.move rfl) ?_
  refine Wk.c rfl rfl rfl (Ck.call rfl rfl) ((c93 hK).mono ?_)
  rintro r t ⟨rfl, rfl⟩
  skip
  refine Wk.b rfl rfl rfl (Qk.move rfl) fun b h7 => ?_
  obtain rfl : b = false := by exact h7.symm -- t7
  refine Wk.no rfl rfl rfl ?_
  refine Wk.no rfl rfl rfl ?_
  refine Wk.no rfl rfl rfl ?_
  refine Wk.q rfl rfl rfl (Qk.pickF rfl rfl) ?_
  refine Wk.q rfl rfl rfl (Qk.move rfl) ?_
  refine Wk.q rfl rfl rfl (Qk.move rfl) ?_
  refine Wk.q rfl rfl rfl (Qk.move rfl) ?_
  refine Wk.q rfl rfl rfl (Qk.bin rfl rfl rfl) ?_
  refine Wk.q rfl rfl rfl (Qk.pickF rfl rfl) ?_
  refine Wk.q rfl rfl rfl (Qk.assign rfl) ?_
  refine Wk.next ?_
  refine Wc.done'' (fun _ _ => rfl) rfl ?_
  exact ⟨rfl, rfl⟩
set_option maxHeartbeats 1000000 in
set_option maxRecDepth 100000 in
theorem c77 (hK : Late K) {n b : Nat} {v : Value} {l : List Int} {s : St} (hown : OwnAt s v 1 n b (ic l)) (hP : P0 n l) (hn : 1 ≤ n ∧ n ≤ 6) :
    Ev Try.prog K (.func (.func 77) #[] #[]) [v, .int .i64 0, .int .i64 n] s fun _ s' => ∃ l', OwnAt s' v 1 n b (ic l') ∧ (∀ k, k < n → l'.getD k 0 = k) ∧ l'.length = n ∧ Same [b] s s' := by
  refine Ev.enterK (hK.none (by decide) _) Try.func77 rfl rfl (Nat.le_of_ble_eq_true rfl) ?_
  refine Wc.tail ?_
  refine Wc.assoc ?_
  refine Wc.region ?_
  refine Wk.q rfl rfl rfl (Qk.move rfl) ?_
  refine Wk.q rfl rfl rfl (Qk.add rfl rfl (by omega)) ?_
  refine Wk.q rfl rfl rfl (Qk.assign rfl) ?_
  refine Wk.next ?_
  refine Wc.block ?_
  refine Wc.loop (σ := Nat × List Int × St) (fun y => 1 ≤ y.1 ∧ y.1 ≤ n ∧ P0 n y.2.1 ∧ OwnAt y.2.2 v 1 n b (ic y.2.1) ∧ Same [b] s y.2.2 ∧ ∀ p q, p < q → q < y.1 → y.2.1.getD p 0 < y.2.1.getD q 0)
    (fun y => [(0, v), (1, .int .i64 0), (2, .int .i64 n), (6, .int .i64 y.1)]) (fun y => y.2.2) (fun y => n - y.1) (1, l, s) ⟨Nat.le_refl _, by dsimp only; omega, hP, hown, Same.refl _ _, by dsimp only; omega⟩ ⟨rfl, rfl, rfl, rfl, trivial⟩ rfl ?_
  clear hown hP
  rintro ⟨i, l, sa⟩ ⟨hi1, hi, hP, hown, hsame, hsort⟩
  dsimp only at hi1 hi hP hown hsame hsort ⊢
  refine Wc.assoc ?_
  refine Wc.assoc ?_
  refine Wc.region ?_
  refine Wk.q rfl rfl rfl (Qk.move rfl) ?_
  refine Wk.q rfl rfl rfl (Qk.move rfl) ?_
  refine Wk.b rfl rfl rfl (Qk.bin rfl rfl rfl) fun b h12 => ?_
  cases b
  · -- t12 = False
    refine Wk.next ?_
    refine Wc.condF rfl ?_
    refine Wc.jump (fun _ _ => rfl) ?_
    refine Wc.finish fun fr hf => ?_
    have hge : i = n := by
      have : ¬ ((i : Int) < (n : Int)) := of_decide_eq_false h12
      omega
    subst hge
    exact ⟨_, rfl, l, hown, sorted_id hP hsort, hP.1, hsame⟩
  · -- t12 = True
    have hlt : i < n := by
      have : (i : Int) < (n : Int) := of_decide_eq_true h12
      omega
    refine Wk.next ?_
    refine Wc.condT rfl ?_
    refine Wc.skip ?_
    refine Wc.assoc ?_
    refine Wc.block ?_
    refine Wc.assoc ?_
    refine Wc.region ?_
    refine Wk.q rfl rfl rfl (Qk.move rfl) ?_
    refine Wk.q rfl rfl rfl (Qk.assign rfl) ?_
    refine Wk.next ?_
    refine Wc.block ?_
    refine Wc.loop (σ := Nat × List Int × St) (fun y => y.1 ≤ i ∧ P0 n y.2.1 ∧ OwnAt y.2.2 v 1 n b (ic y.2.1) ∧ Same [b] s y.2.2 ∧ ∀ p q, p < q → q ≤ i → q ≠ y.1 → y.2.1.getD p 0 < y.2.1.getD q 0)
      (fun y => [(0, v), (1, .int .i64 0), (2, .int .i64 n), (6, .int .i64 i), (7, .int .i64 y.1)]) (fun y => y.2.2) (fun y => y.1) (i, l, sa) ⟨Nat.le_refl _, hP, hown, hsame, fun p q h1 h2 h3 => hsort p q h1 (by dsimp only at h3; omega)⟩ ⟨rfl, rfl, rfl, rfl, rfl, trivial⟩ rfl ?_
    clear hown hP hsame hsort
    rintro ⟨j, l, sb⟩ ⟨hj, hP, hown, hsame, hsort⟩
    dsimp only at hj hP hown hsame hsort ⊢
    have hll := hP.1
    have hrw : IRow sb v l := by rw [← hll] at hown; exact hown.irow
    refine Wc.assoc ?_
    refine Wc.assoc ?_
    refine Wc.draw0 rfl ?_
    refine Wd.q rfl rfl rfl (Qk.move rfl) ?_
    refine Wd.q rfl rfl rfl (Qk.move rfl) ?_
    refine Wd.b rfl rfl rfl (Qk.bin rfl rfl rfl) fun b h18 => ?_
    cases b
    · -- t18 = False
      refine Wd.q rfl rfl rfl (Qk.move rfl) ?_
      refine Wd.no rfl rfl rfl ?_
      refine Wd.no rfl rfl rfl ?_
      refine Wd.no rfl rfl rfl ?_
      refine Wd.no rfl rfl rfl ?_
      refine Wd.no rfl rfl rfl ?_
      refine Wd.no rfl rfl rfl ?_
      refine Wd.no rfl rfl rfl ?_
      refine Wd.no rfl rfl rfl ?_
      refine Wd.no rfl rfl rfl ?_
      refine Wd.no rfl rfl rfl ?_
      refine Wd.q rfl rfl rfl (Qk.pickF rfl rfl) ?_
      refine Wd.next ?_
      refine Wc.condF rfl ?_
      refine Wc.jump (fun _ _ => rfl) ?_
      refine Wc.thence (fun _ _ => rfl) ?_
      refine Wc.region ?_
      refine Wk.q rfl rfl rfl (Qk.move rfl) ?_
      refine Wk.q rfl rfl rfl (Qk.add rfl rfl (by omega)) ?_
      refine Wk.q rfl rfl rfl (Qk.assign rfl) ?_
      refine Wk.next ?_
      refine Wc.finish fun fr hf => ?_
      have hj0 : j = 0 := by
        have : ¬ ((j : Int) > 0) := of_decide_eq_false h18
        omega
      exact ⟨(i + 1, l, sb), ⟨by dsimp only; omega, hlt, hP, hown, hsame, fun p q h1 h2 => hsort p q h1 (by dsimp only at h2; omega) (by omega)⟩, by dsimp only; omega, rfl, hf.less ⟨rfl, rfl, rfl, rfl, trivial⟩⟩
    · -- t18 = True
      have hjp : 0 < j := by
        have : (j : Int) > 0 := of_decide_eq_true h18
        omega
      have hj1 : ((j : Int) - 1).toNat = j - 1 := by omega
      refine Wd.q rfl rfl rfl (Qk.move rfl) ?_
      refine Wd.q rfl rfl rfl (Qk.move rfl) ?_
      refine Wd.q rfl rfl rfl (Qk.move rfl) ?_
      refine Wd.q rfl rfl rfl (Qk.at rfl rfl ar29 sl29 hrw (by constructor <;> omega)) ?_
      refine Wd.r rfl rfl rfl (Rk.intR rfl sh3 hrw (i := j) (by omega)) rfl ?_
      refine Wd.q rfl rfl rfl (Qk.move rfl) ?_
      refine Wd.q rfl rfl rfl (Qk.move rfl) ?_
      refine Wd.q rfl rfl rfl (Qk.sub rfl rfl (by omega)) ?_
      refine Wd.q rfl rfl rfl (Qk.at rfl rfl ar29 sl29 hrw (by constructor <;> omega)) ?_
      refine Wd.r rfl rfl rfl (Rk.intR rfl sh3 hrw (i := ((j : Int) - 1).toNat) (by omega)) rfl ?_
      refine Wd.c rfl rfl rfl (Ck.call rfl rfl) rfl rfl ((c83 hK).mono ?_)
      rintro r t ⟨rfl, rfl⟩
      skip
      refine Wd.b rfl rfl rfl (Qk.pickT rfl rfl) fun b h30 => ?_
      cases b
      · -- t30 = False
        refine Wd.next ?_
        refine Wc.condF rfl ?_
        refine Wc.jump (fun _ _ => rfl) ?_
        refine Wc.thence (fun _ _ => rfl) ?_
        refine Wc.region ?_
        refine Wk.q rfl rfl rfl (Qk.move rfl) ?_
        refine Wk.q rfl rfl rfl (Qk.add rfl rfl (by omega)) ?_
        refine Wk.q rfl rfl rfl (Qk.assign rfl) ?_
        refine Wk.next ?_
        refine Wc.finish fun fr hf => ?_
        refine ⟨(i + 1, l, _), ⟨by dsimp only; omega, hlt, hP, hown, hsame, ?_⟩, by dsimp only; omega, rfl, hf.less ⟨rfl, rfl, rfl, rfl, trivial⟩⟩
        have hno : ¬ (l.getD j 0 < l.getD (j - 1) 0) := by
          have := of_decide_eq_false h30
          rwa [hj1] at this
        exact sort_stop hP hlt hj hjp hsort hno
      · -- t30 = True
        have hless : l.getD j 0 < l.getD (j - 1) 0 := by
          have := of_decide_eq_true h30
          rwa [hj1] at this
        refine Wd.next ?_
        refine Wc.condT rfl ?_
        refine Wc.skip ?_
        refine Wc.assoc ?_
        refine Wc.block ?_
        refine Wc.draw0 rfl ?_
        refine Wd.q rfl rfl rfl (Qk.move rfl) ?_
        refine Wd.q rfl rfl rfl (Qk.move rfl) ?_
        refine Wd.q rfl rfl rfl (Qk.move rfl) ?_
        refine Wd.q rfl rfl rfl (Qk.move rfl) ?_
        refine Wd.q rfl rfl rfl (Qk.sub rfl rfl (by omega)) ?_
        refine Wd.q rfl rfl rfl (Qk.move rfl) ?_
        refine Wd.q rfl rfl rfl (Qk.move rfl) ?_
        refine Wd.q rfl rfl rfl (Qk.sub rfl rfl (by omega)) ?_
        refine Wd.q rfl rfl rfl (Qk.at rfl rfl ar29 sl29 hrw (by constructor <;> omega)) ?_
        refine Wd.r rfl rfl rfl (Rk.intR rfl sh3 hrw (i := ((j : Int) - 1).toNat) (by omega)) rfl ?_
        refine Wd.q rfl rfl rfl (Qk.move rfl) ?_
        refine Wd.q rfl rfl rfl (Qk.move rfl) ?_
        refine Wd.q rfl rfl rfl (Qk.at rfl rfl ar29 sl29 hrw (by constructor <;> omega)) ?_
        refine Wd.r rfl rfl rfl (Rk.intR rfl sh3 hrw (i := j) (by omega)) rfl ?_
        refine Wd.q rfl rfl rfl (Qk.at rfl rfl ar29 sl29 hrw (by constructor <;> omega)) ?_
        obtain ⟨s1, hst1, hown1, hsame1⟩ := own_store (u := l.getD ((j : Int) - 1).toNat 0) (i := (j : Int).toNat) sh3 hown (by omega)
        refine Wd.h rfl rfl rfl (Hk.store rfl rfl (by assumption)) rfl rfl ?_
        refine Wd.q rfl rfl rfl (Qk.at rfl rfl ar29 sl29 hrw (by constructor <;> omega)) ?_
        obtain ⟨s2, hst2, hown2, hsame2⟩ := own_store (u := l.getD j 0) (i := ((j : Int) - 1).toNat) sh3 hown1 (by omega)
        refine Wd.h rfl rfl rfl (Hk.store rfl rfl (by assumption)) rfl rfl ?_
        refine Wd.next ?_
        refine Wc.store fun s1 e1 => ?_
        subst e1
        rw [hj1, show (j : Int).toNat = j from rfl] at hown2
        obtain ⟨hP', hs'⟩ := sort_swap hP hlt hj hjp hsort hless
        refine Wc.thence (fun _ _ => rfl) ?_
        refine Wc.region ?_
        refine Wk.q rfl rfl rfl (Qk.move rfl) ?_
        refine Wk.q rfl rfl rfl (Qk.sub rfl rfl (by omega)) ?_
        refine Wk.q rfl rfl rfl (Qk.assign rfl) ?_
        refine Wk.next ?_
        refine Wc.finish fun fr hf => ?_
        exact ⟨(j - 1, _, _), ⟨by dsimp only; omega, hP', hown2, (hsame.trans hsame1).trans hsame2, hs'⟩, by dsimp only; omega, rfl, hf.less ⟨rfl, rfl, rfl, rfl, by show some (Value.int .i64 ((j : Int) - 1)) = some (.int .i64 ((j - 1 : Nat) : Int)); rw [show ((j - 1 : Nat) : Int) = (j : Int) - 1 by omega], trivial⟩⟩
set_option maxRecDepth 100000 in
theorem c74 (hK : Late K) {n b : Nat} {v z : Value} {l : List Int} {s : St} (hown : OwnAt s v 1 n b (ic l)) (hP : P0 n l) (hn : 1 ≤ n ∧ n ≤ 6) :
    Ev Try.prog K (.func (.func 74) #[] #[]) [v, .int .i64 0, .int .i64 n, z] s fun _ s' => ∃ l', OwnAt s' v 1 n b (ic l') ∧ (∀ k, k < n → l'.getD k 0 = k) ∧ l'.length = n ∧ Same [b] s s' := by
  refine Ev.enterK (hK.none (by decide) _) Try.func74 rfl rfl (Nat.le_of_ble_eq_true rfl) ?_
  refine Wc.tail ?_
  refine Wc.assoc ?_
  refine Wc.region ?_
  refine Wk.q rfl rfl rfl (Qk.assign rfl) ?_
  refine Wk.next ?_
  refine Wc.assoc ?_
  refine Wc.region ?_
  refine Wk.q rfl rfl rfl (Qk.assign rfl) ?_
  refine Wk.next ?_
  refine Wc.block ?_
  refine Wc.loop (σ := Unit) (fun _ => True) (fun _ => [(0, v), (1, .int .i64 0), (2, .int .i64 n)]) (fun _ => s) (fun _ => 0) () trivial ⟨rfl, rfl, rfl, trivial⟩ rfl ?_
  rintro _ _
  refine Wc.block ?_
  refine Wc.assoc ?_
  refine Wc.region ?_
  refine Wk.q rfl rfl rfl (Qk.move rfl) ?_
  refine Wk.q rfl rfl rfl (Qk.move rfl) ?_
  refine Wk.q rfl rfl rfl (Qk.sub rfl rfl (by omega)) ?_
  refine Wk.q rfl rfl rfl (Qk.assign rfl) ?_
  refine Wk.next ?_
  refine Wc.assoc ?_
  refine Wc.assoc ?_
  refine Wc.region ?_
  refine Wk.q rfl rfl rfl (Qk.move rfl) ?_
  refine Wk.b rfl rfl rfl (Qk.bin rfl rfl rfl) fun b h23 => ?_
  obtain rfl : b = true := by rw [← h23, decide_eq_true_iff]; omega -- t23
  refine Wk.next ?_
  refine Wc.condT rfl ?_
  refine Wc.assoc ?_
  refine Wc.region ?_
  refine Wk.q rfl rfl rfl (Qk.move rfl) ?_
  refine Wk.q rfl rfl rfl (Qk.move rfl) ?_
  refine Wk.q rfl rfl rfl (Qk.move rfl) ?_
  refine Wk.c rfl rfl rfl (Ck.call rfl rfl) ((c77 hK hown hP hn).mono ?_)
  rintro r t ⟨l', h1, h2, h3, h4⟩
  refine Wk.next ?_
  refine Wc.done'' (fun _ _ => rfl) rfl ?_
  exact ⟨l', h1, h2, h3, h4⟩
theorem small {n : Nat} (h : n ≤ 6) : n = 0 ∨ n = 1 ∨ n = 2 ∨ n = 3 ∨ n = 4 ∨ n = 5 ∨ n = 6 := by omega
theorem cvt107 {n : Nat} (h : n ≤ 6) : pureVal Try.prog (Go.convert 3 107 (.int .i64 n)) = some (.int .u64 n) := by
  rcases small h with rfl | rfl | rfl | rfl | rfl | rfl | rfl <;> kernel_rfl
theorem cvt87 {n : Nat} (h : n ≤ 6) : pureVal Try.prog (Go.convert 87 5 (.int .u64 n)) = some (.int .u8 n) := by
  rcases small h with rfl | rfl | rfl | rfl | rfl | rfl | rfl <;> kernel_rfl
def lenOf (n : Nat) : Nat := if n = 0 then 0 else if n = 1 then 1 else if n ≤ 3 then 2 else 3
theorem lenOf_le (n : Nat) : lenOf n ≤ 6 := by unfold lenOf; split <;> (try split) <;> (try split) <;> omega
theorem cvt5 {n : Nat} (h : n ≤ 6) : pureVal Try.prog (Go.convert 5 3 (.int .u8 n)) = some (.int .i64 n) := by
  rcases small h with rfl | rfl | rfl | rfl | rfl | rfl | rfl <;> kernel_rfl
set_option maxRecDepth 100000 in
theorem c87 (hK : Late K) {n : Nat} {s : St} (hn : n ≤ 6) : Ev Try.prog K (.func (.func 87) #[] #[]) [.int .u64 n] s fun r s' => ∃ z, r = .int .i64 z ∧ s' = s := by
  have hlo := lenOf_le n
  refine Ev.enterK (hK.none (by decide) _) Try.func87 rfl rfl (Nat.le_of_ble_eq_true rfl) ?_
  refine Wc.tail ?_
  refine Wc.assoc ?_
  refine Wc.region ?_
  refine Wk.q rfl rfl rfl (Qk.assign rfl) ?_
  refine Wk.next ?_
  refine Wc.assoc ?_
  refine Wc.assoc ?_
  refine Wc.region ?_
  refine Wk.q rfl rfl rfl (Qk.move rfl) ?_
  refine Wk.b rfl rfl rfl (Qk.bin rfl rfl rfl) fun b h4 => ?_
  obtain rfl : b = false := by rw [← h4, decide_eq_false_iff_not]; omega -- t4
  refine Wk.next ?_
  refine Wc.condF rfl ?_
  refine Wc.skip ?_
  refine Wc.assoc ?_
  refine Wc.assoc ?_
  refine Wc.region ?_
  refine Wk.q rfl rfl rfl (Qk.move rfl) ?_
  refine Wk.b rfl rfl rfl (Qk.bin rfl rfl rfl) fun b h8 => ?_
  obtain rfl : b = false := by rw [← h8, decide_eq_false_iff_not]; omega -- t8
  refine Wk.next ?_
  refine Wc.condF rfl ?_
  refine Wc.skip ?_
  refine Wc.assoc ?_
  refine Wc.assoc ?_
  refine Wc.region ?_
  refine Wk.q rfl rfl rfl (Qk.move rfl) ?_
  refine Wk.b rfl rfl rfl (Qk.bin rfl rfl rfl) fun b h14 => ?_
  obtain rfl : b = false := by rw [← h14, decide_eq_false_iff_not]; omega -- t14
  refine Wk.next ?_
  refine Wc.condF rfl ?_
  refine Wc.skip ?_
  refine Wc.assoc ?_
  refine Wc.region ?_
  refine Wk.q rfl rfl rfl (Qk.move rfl) ?_
  refine Wk.q rfl rfl rfl (Qk.move rfl) ?_
  refine Wk.q rfl rfl rfl (Qk.convert rfl rfl (cvt87 hn)) ?_
  refine Wk.q rfl rfl rfl (Qk.index (r := .int .u8 ((lenOf n : Nat) : Int)) rfl rfl (by rcases small hn with rfl | rfl | rfl | rfl | rfl | rfl | rfl <;> kernel_rfl)) ?_
  refine Wk.q rfl rfl rfl (Qk.convert rfl rfl (cvt5 (lenOf_le n))) ?_
  refine Wk.q rfl rfl rfl (Qk.add rfl rfl (by omega)) ?_
  refine Wk.q rfl rfl rfl (Qk.assign rfl) ?_
  refine Wk.next ?_
  refine Wc.done'' (fun _ _ => rfl) rfl ?_
  exact ⟨_, rfl, rfl⟩
theorem c75 (hK : Late K) {n : Nat} {s : St} (hn : n ≤ 6) : Ev Try.prog K (.func (.func 75) #[] #[]) [.int .u64 n] s fun r s' => ∃ z, r = .int .i64 z ∧ s' = s := by
  refine Ev.enterK (hK.none (by decide) _) Try.func75 rfl rfl (Nat.le_of_ble_eq_true rfl) ?_
  refine Wc.tail ?_
  refine Wc.assoc ?_
  refine Wc.region ?_
  refine Wk.q rfl rfl rfl (Qk.assign rfl) ?_
  refine Wk.next ?_
  refine Wc.assoc ?_
  refine Wc.condF rfl ?_
  refine Wc.skip ?_
  refine Wc.assoc ?_
  refine Wc.region ?_
  refine Wk.q rfl rfl rfl (Qk.move rfl) ?_
  refine Wk.c rfl rfl rfl (Ck.call rfl rfl) ((c87 hK hn).mono ?_)
  rintro r t ⟨z, rfl, rfl⟩
  refine Wk.q rfl rfl rfl (Qk.assign rfl) ?_
  refine Wk.next ?_
  refine Wc.done'' (fun _ _ => rfl) rfl ?_
  exact ⟨_, rfl, rfl⟩
set_option maxRecDepth 100000 in
theorem c63 (hK : Late K) {n b : Nat} {v : Value} {l : List Int} {s : St} (hown : OwnAt s v 1 n b (ic l)) (hP : P0 n l) (hn : 1 ≤ n ∧ n ≤ 6) :
    Ev Try.prog K (.func (.func 63) #[] #[]) [v] s fun _ s' => ∃ l', OwnAt s' v 1 n b (ic l') ∧ (∀ k, k < n → l'.getD k 0 = k) ∧ l'.length = n ∧ Same [b] s s' := by
  have hll := hP.1
  have hrw : IRow s v l := by rw [← hll] at hown; exact hown.irow
  have hrw : Row s v n 1 (fun i => [.int .i64 (l.getD i 0)]) := by rw [← hll]; exact hrw
  refine Ev.enterK (hK.none (by decide) _) Try.func63 rfl rfl (Nat.le_of_ble_eq_true rfl) ?_
  refine Wc.tail ?_
  refine Wc.assoc ?_
  refine Wc.region ?_
  refine Wk.q rfl rfl rfl (Qk.move rfl) ?_
  refine Wk.q rfl rfl rfl (Qk.lenR rfl rfl rfl hrw sl29) ?_
  refine Wk.q rfl rfl rfl (Qk.assign rfl) ?_
  refine Wk.next ?_
  refine Wc.region ?_
  refine Wk.q rfl rfl rfl (Qk.move rfl) ?_
  refine Wk.q rfl rfl rfl (Qk.move rfl) ?_
  refine Wk.q rfl rfl rfl (Qk.move rfl) ?_
  refine Wk.q rfl rfl rfl (Qk.convert rfl rfl (cvt107 hn.2)) ?_
  refine Wk.c rfl rfl rfl (Ck.call rfl rfl) ((c75 hK hn.2).mono ?_)
  rintro r t ⟨z, rfl, rfl⟩
  refine Wk.c rfl rfl rfl (Ck.call rfl rfl) ((c74 hK hown hP hn).mono ?_)
  rintro r2 t2 ⟨l', h1, h2, h3, h4⟩
  refine Wk.next ?_
  refine Wc.finish fun fr hf => ?_
  exact ⟨_, rfl, l', h1, h2, h3, h4⟩
set_option maxRecDepth 100000 in
theorem c42 (hK : Late K) {n pb : Nat} {l : List Int} {v : Value} {s : St} (hv : IRow s v l) (hbox : s.get pb = some ⟨[v], .rw⟩) (hP : P0 n l) (hn : 1 ≤ n ∧ n ≤ 6) :
    Ev Try.prog K (.func (.func 42) #[] #[]) [.func (.func 64) #[] #[.pointer (some ⟨pb, 0, none⟩)]] s fun r s' => ∃ c l', s.size ≤ c ∧ OwnAt s' r 1 n c (ic l') ∧ (∀ k, k < n → l'.getD k 0 = k) ∧ l'.length = n ∧ Old s s' := by
  refine Ev.enterK (hK.none (by decide) _) Try.func42 rfl rfl (Nat.le_of_ble_eq_true rfl) ?_
  refine Wc.tail ?_
  refine Wc.assoc ?_
  refine Wc.region ?_
  refine Wk.q rfl rfl rfl (Qk.assign rfl) ?_
  refine Wk.next ?_
  refine Wc.assoc ?_
  refine Wc.region ?_
  refine Wk.q rfl rfl rfl (Qk.move rfl) ?_
  refine Wk.c rfl rfl rfl (Ck.call rfl rfl) ((c62 hK hv hbox (by have := hP.1; omega)).mono ?_)
  rintro rv t1 ⟨bo, hgr, ho1⟩
  have hll := hP.1
  obtain ⟨c, hc, hown⟩ : ∃ c, s.size ≤ c ∧ OwnAt t1 rv 1 n c (ic l) := by
    rcases hgr with ⟨_, _, h, _⟩ | ⟨c, _, h1, h2⟩
    · omega
    · rw [hll] at h2; exact ⟨c, h1, h2⟩
  have hrw : IRow t1 rv l := by rw [← hll] at hown; exact hown.irow
  refine Wk.q rfl rfl rfl (Qk.assign rfl) ?_
  refine Wk.next ?_
  refine Wc.assoc ?_
  refine Wc.region ?_
  refine Wk.q rfl rfl rfl (Qk.move rfl) ?_
  refine Wk.c rfl rfl rfl (Ck.call rfl rfl) ((c63 hK hown hP hn).mono ?_)
  rintro r2 t2 ⟨l', h1, h2, h3, h4⟩
  refine Wk.next ?_
  refine Wc.assoc ?_
  refine Wc.region ?_
  refine Wk.q rfl rfl rfl (Qk.move rfl) ?_
  refine Wk.q rfl rfl rfl (Qk.assign rfl) ?_
  refine Wk.next ?_
  refine Wc.done'' (fun _ _ => rfl) rfl ?_
  exact ⟨c, l', hc, h1, h2, h3, Same.older ho1 h4 (by simpa using hc)⟩
set_option maxRecDepth 100000 in
theorem c26 (hK : Late K) {n : Nat} {l : List Int} {v : Value} {s : St} (hv : IRow s v l) (hP : P0 n l) (hn : 1 ≤ n ∧ n ≤ 6) :
    Ev Try.prog K (.func (.func 26) #[] #[]) [v, .int .i64 n] s fun r s' => r = .bool true ∧ Old s s' := by
  have hv0 := hv
  obtain ⟨a, cap, hve, _⟩ := hv0
  subst hve
  refine Ev.enterK (hK.none (by decide) _) Try.func26 rfl rfl (Nat.le_of_ble_eq_true rfl) ?_
  refine Wc.tail ?_
  refine Wc.assoc ?_
  refine Wc.region ?_
  refine Wk.q rfl rfl rfl (Qk.assign rfl) ?_
  refine Wk.next ?_
  refine Wc.assoc ?_
  refine Wc.region ?_
  refine Wk.q rfl rfl rfl (Qk.move rfl) ?_
  refine Wk.c rfl rfl rfl (Ck.call rfl rfl) ((c43 hK).mono ?_)
  rintro r t ⟨rfl, rfl⟩
  have ho0 : Old s (s.push ⟨[.slice a l.length cap], .rw⟩) := Old.push _ _
  refine Wk.c rfl rfl rfl (Ck.call rfl rfl) ((c42 hK (hv.old ho0) gnew hP hn).mono ?_)
  rintro rv t2 ⟨c, l', hc, hown, hid, hll, ho2⟩
  have ho := ho0.trans ho2
  have hrw : IRow t2 rv l' := by rw [← hll] at hown; exact hown.irow
  refine Wk.q rfl rfl rfl (Qk.assign rfl) ?_
  refine Wk.next ?_
  refine Wc.assoc ?_
  refine Wc.assoc ?_
  refine Wc.region ?_
  refine Wk.q rfl rfl rfl (Qk.move rfl) ?_
  refine Wk.q rfl rfl rfl (Qk.lenR rfl rfl rfl hrw sl29) ?_
  refine Wk.q rfl rfl rfl (Qk.move rfl) ?_
  refine Wk.next ?_
  refine Wc.block ?_
  refine Wc.loop (σ := Nat) (fun i => i ≤ n) (fun i => [(1, .int .i64 n), (5, rv), (11, rv), (12, goInt l'.length), (13, .int .i64 i)]) (fun _ => t2) (fun i => n - i) 0 (Nat.zero_le _) ⟨rfl, rfl, rfl, rfl, rfl, trivial⟩ rfl ?_
  rintro i hi
  refine Wc.assoc ?_
  refine Wc.region ?_
  refine Wk.b rfl rfl rfl (Qk.bin rfl rfl rfl) fun b h14 => ?_
  cases b
  · -- t14 = False
    refine Wk.next ?_
    refine Wc.assoc ?_
    refine Wc.condF rfl ?_
    refine Wc.jump (fun _ _ => rfl) ?_
    refine Wc.assoc ?_
    refine Wc.region ?_
    refine Wk.q rfl rfl rfl (Qk.move rfl) ?_
    refine Wk.q rfl rfl rfl (Qk.lenR rfl rfl rfl hrw sl29) ?_
    refine Wk.q rfl rfl rfl (Qk.move rfl) ?_
    refine Wk.q rfl rfl rfl (Qk.bin rfl rfl rfl) ?_
    refine Wk.q rfl rfl rfl (Qk.assign rfl) ?_
    refine Wk.next ?_
    refine Wc.done'' (fun _ _ => rfl) rfl ?_
    refine ⟨?_, ho⟩
    simp only [pack]
    congr 1
    rw [hll]
    exact beq_self_eq_true _
  · -- t14 = True
    have hlt : i < n := by
      have : (i : Int) < (l'.length : Int) := of_decide_eq_true h14
      omega
    refine Wk.next ?_
    refine Wc.assoc ?_
    refine Wc.condT rfl ?_
    refine Wc.skip ?_
    refine Wc.assoc ?_
    refine Wc.block ?_
    refine Wc.assoc ?_
    refine Wc.region ?_
    refine Wk.q rfl rfl rfl (Qk.move rfl) ?_
    refine Wk.q rfl rfl rfl (Qk.at rfl rfl ar29 sl29 hrw (by constructor <;> omega)) ?_
    refine Wk.r rfl rfl rfl (Rk.intR rfl sh3 hrw (i := i) (by omega)) ?_
    refine Wk.q rfl rfl rfl (Qk.assign rfl) ?_
    refine Wk.q rfl rfl rfl (Qk.assign rfl) ?_
    refine Wk.next ?_
    refine Wc.assoc ?_
    refine Wc.region ?_
    refine Wk.q rfl rfl rfl (Qk.move rfl) ?_
    refine Wk.q rfl rfl rfl (Qk.move rfl) ?_
    refine Wk.b rfl rfl rfl (Qk.bin rfl rfl rfl) fun b h20 => ?_
    obtain rfl : b = false := by rw [← h20, hid i hlt]; simp -- t20
    refine Wk.next ?_
    refine Wc.condF rfl ?_
    refine Wc.skip ?_
    refine Wc.thence (fun _ _ => rfl) ?_
    refine Wc.region ?_
    refine Wk.q rfl rfl rfl (Qk.add rfl rfl (by omega)) ?_
    refine Wk.q rfl rfl rfl (Qk.move rfl) ?_
    refine Wk.next ?_
    refine Wc.finish fun fr hf => ?_
    exact ⟨i + 1, hlt, by omega, rfl, hf.less ⟨rfl, rfl, rfl, rfl, rfl, trivial⟩⟩
end Go.Proofs.Ytfgnjndicidpkaa
