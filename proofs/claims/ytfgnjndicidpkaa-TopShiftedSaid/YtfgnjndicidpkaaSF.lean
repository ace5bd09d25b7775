/- The search for the best assignment, as the program makes it. -/
import Derived.Test.YtfgnjndicidpkaaSE
namespace Go.Proofs.Ytfgnjndicidpkaa
open Go.Abs
variable {K : Known}

theorem Qk.iaA {P : Program} {n : Nat} {k : Kn} {t e : TypeId} {x y : Operand} {b off m size : Nat} {kd : IntKind} {j : Int} (hx : kev k x = some (.pointer (some ⟨b, off, none⟩))) (hy : kev k y = some (.int kd j)) (ha : arrElem P t = some (m, e, size)) (hj : 0 ≤ j ∧ j < m) :
    Qk P n k (.indexAddr t x y) (.pointer (some ⟨b, off + j.toNat * size, none⟩)) := Qk.indexAddr hx hy (by simp [aindexAddr, ha, hj])

theorem ap29 : ApOk Try.prog 29 29 3 1 8 := ⟨sl29, by decide, by rw [ze3]; rfl, by kernel_rfl, by kernel_rfl⟩
theorem und29 : Try.prog.underlying 29 = some (.slice 3) := by kernel_rfl
theorem eqnil29 {t : Nat} : abin Try.prog .eql 29 (.tmp t) (.const (.slice none 0 0)) (.slice none 0 0) (.slice none 0 0) = some (.bool true) := by kernel_rfl
theorem eqsome29 {t : Nat} {x : Addr} {n c : Nat} : abin Try.prog .eql 29 (.tmp t) (.const (.slice none 0 0)) (.slice (some x) n c) (.slice none 0 0) = some (.bool false) := by
  simp [abin, plain, splain, anil, und29]
theorem bs29 : abuildSlice Try.prog 29 0 [] = some ([], fun b => .slice (some ⟨b, 0, none⟩) 0 0) := by
  simp only [abuildSlice, sl29, ze3]
  rfl

set_option maxRecDepth 100000 in
theorem c61s (hK : Late K) {x : Addr} {cap : Nat} {l : List Int} {s : St} (hv : IRow s (.slice (some x) l.length cap) l) (hl : l.length ≤ 1000) : Ev Try.prog K (.func (.func 61) #[] #[]) [.slice (some x) l.length cap] s fun r s' => ∃ bo, Grew s' s.size r 1 l.length (ic l) bo ∧ Old s s' := by
  refine Ev.enterK (hK.none (by decide) _) Try.func61 rfl rfl (Nat.le_of_ble_eq_true rfl) ?_
  refine Wc.tail ?_
  refine Wc.assoc ?_
  refine Wc.region ?_
  refine Wk.q rfl rfl rfl (Qk.assign rfl) ?_
  refine Wk.next ?_
  refine Wc.assoc ?_
  refine Wc.assoc ?_
  refine Wc.region ?_
  refine Wk.q rfl rfl rfl (Qk.move rfl) ?_
  refine Wk.b rfl rfl rfl (Qk.bin rfl rfl eqsome29) fun b h4 => ?_
  obtain rfl : b = false := by exact h4.symm -- t4
  refine Wk.next ?_
  refine Wc.condF rfl ?_
  refine Wc.skip ?_
  refine Wc.assoc ?_
  refine Wc.region ?_
  refine Wk.f rfl rfl rfl (Fk.buildSlice rfl bs29) ?_
  refine Wk.q rfl rfl rfl (Qk.move rfl) ?_
  refine Wk.store' fun s1 e1 => ?_
  have ho1 : Old s s1 := by subst e1; exact Old.push _ _
  have hown : Grew s1 s.size (.slice (some ⟨s.size, 0, none⟩) 0 0) 1 0 [] (some s.size) := by subst e1; exact .inr ⟨_, rfl, Nat.le_refl _, ⟨0, .rw, [], rfl, Nat.le_refl _, gnew, .inl rfl, rfl, rfl⟩⟩
  obtain ⟨v', t', bo', hap, hgr, hb', hsame⟩ := append_ints ap29 hown ho1.1 (hv.old ho1) (by omega)
  refine Wk.h rfl rfl rfl (Hk.append rfl rfl rfl rfl (by assumption)) ?_
  refine Wk.q rfl rfl rfl (Qk.assign rfl) ?_
  refine Wk.next ?_
  refine Wc.store fun s2 e2 => ?_
  refine Wc.done'' (fun _ _ => rfl) rfl ?_
  subst e2
  exact ⟨bo', by simpa [pack] using hgr, Same.older ho1 hsame (by simp)⟩
set_option maxRecDepth 100000 in
theorem c61n (hK : Late K) {s : St} : Ev Try.prog K (.func (.func 61) #[] #[]) [.slice none 0 0] s fun r s' => ∃ bo, Grew s' s.size r 1 0 [] bo ∧ Old s s' := by
  refine Ev.enterK (hK.none (by decide) _) Try.func61 rfl rfl (Nat.le_of_ble_eq_true rfl) ?_
  refine Wc.tail ?_
  refine Wc.assoc ?_
  refine Wc.region ?_
  refine Wk.q rfl rfl rfl (Qk.assign rfl) ?_
  refine Wk.next ?_
  refine Wc.assoc ?_
  refine Wc.assoc ?_
  refine Wc.region ?_
  refine Wk.q rfl rfl rfl (Qk.move rfl) ?_
  refine Wk.b rfl rfl rfl (Qk.bin rfl rfl eqnil29) fun b h4 => ?_
  obtain rfl : b = true := by exact h4.symm -- t4
  refine Wk.next ?_
  refine Wc.condT rfl ?_
  refine Wc.assoc ?_
  refine Wc.region ?_
  refine Wk.q rfl rfl rfl (Qk.assign rfl) ?_
  refine Wk.next ?_
  refine Wc.done'' (fun _ _ => rfl) rfl ?_
  exact ⟨none, Grew.nil, Old.refl _⟩
theorem c61 (hK : Late K) {v : Value} {l : List Int} {s : St} (hv : IRow s v l) (hl : l.length ≤ 1000) : Ev Try.prog K (.func (.func 61) #[] #[]) [v] s fun r s' => ∃ bo, Grew s' s.size r 1 l.length (ic l) bo ∧ Old s s' := by
  have hv0 := hv
  obtain ⟨a, cap, rfl, h1, _⟩ := hv0
  cases a with
  | some x => exact c61s hK hv hl
  | none =>
    have hc := h1.2 rfl
    have hl0 : l = [] := List.length_eq_zero_iff.1 (by omega)
    subst hc hl0
    exact c61n hK

theorem Grew.ge {s : St} {base : Nat} {v : Value} {sz n : Nat} {cells : List Value} {bo : Option Nat} {c : Nat} (h : Grew s base v sz n cells bo) (hc : bo = some c) : base ≤ c := by subst hc; exact h.lt.2

/-- The cells of a search. -/
def scells (v nv : Value) (used : List Bool) (bv : Value) (most : Int) : List Value := [v, .int .i64 (-1), nv, .bool (used.getD 0 false), .bool (used.getD 1 false), .bool (used.getD 2 false), .bool (used.getD 3 false), .bool (used.getD 4 false), .bool (used.getD 5 false), bv, .int .i64 most]
@[simp] theorem scells_len {v nv : Value} {used : List Bool} {bv : Value} {most : Int} : (scells v nv used bv most).length = 11 := rfl
theorem getU {v nv : Value} {used : List Bool} {bv : Value} {most : Int} {j : Nat} (h : j < 6) : (scells v nv used bv most)[0 + 3 + (j : Int).toNat * 1]? = some (.bool (used.getD j false)) := by
  match j, h with
  | 0, _ => rfl
  | 1, _ => rfl
  | 2, _ => rfl
  | 3, _ => rfl
  | 4, _ => rfl
  | 5, _ => rfl
theorem setU {v nv : Value} {used : List Bool} {bv : Value} {most : Int} {j : Nat} {b : Bool} (h : j < 6) (hu : used.length = 6) : (scells v nv used bv most).set (0 + 3 + (j : Int).toNat * 1) (.bool b) = scells v nv (used.set j b) bv most := by
  match used, hu with
  | [a0, a1, a2, a3, a4, a5], _ =>
    match j, h with
    | 0, _ => rfl
    | 1, _ => rfl
    | 2, _ => rfl
    | 3, _ => rfl
    | 4, _ => rfl
    | 5, _ => rfl

def BestV (s : St) (base : Nat) (bv : Value) : Option (List Int) → Option Nat → Prop
  | none, bb => bv = .slice none 0 0 ∧ bb = none
  | some b, bb => 0 < b.length ∧ ∃ c, bb = some c ∧ base ≤ c ∧ OwnAt s bv 1 b.length c (ic b)
theorem BestV.ge {s : St} {base : Nat} {bv : Value} {best : Option (List Int)} {bb : Option Nat} {c : Nat} (h : BestV s base bv best bb) (hc : bb = some c) : base ≤ c := by
  subst hc
  cases best with
  | none => exact absurd h.2 (by simp)
  | some b => obtain ⟨_, c', e, h1, _⟩ := h; cases e; exact h1
theorem BestV.lt {s : St} {base : Nat} {bv : Value} {best : Option (List Int)} {bb : Option Nat} {c : Nat} (h : BestV s base bv best bb) (hc : bb = some c) : c < s.size := by
  subst hc
  cases best with
  | none => exact absurd h.2 (by simp)
  | some b => obtain ⟨_, c', e, h1, h2⟩ := h; cases e; exact h2.lt
theorem BestV.same {s s' : St} {base : Nat} {bv : Value} {best : Option (List Int)} {bb : Option Nat} {B : List Nat} (h : BestV s base bv best bb) (hs : Same B s s') (hm : ∀ c, bb = some c → c ∉ B) : BestV s' base bv best bb := by
  cases best with
  | none => exact h
  | some b =>
    obtain ⟨h0, c, e, h1, h2⟩ := h
    exact ⟨h0, c, e, h1, h2.keep (hs.2.1 c h2.lt (hm c e))⟩
theorem eq29 {s : St} {base : Nat} {bv : Value} {best : Option (List Int)} {bb : Option Nat} {t : Nat} (h : BestV s base bv best bb) : abin Try.prog .eql 29 (.tmp t) (.const (.slice none 0 0)) bv (.slice none 0 0) = some (.bool best.isNone) := by
  cases best with
  | none => obtain ⟨rfl, _⟩ := h; exact eqnil29
  | some b => obtain ⟨_, c, _, _, cap, md, cs, rfl, _⟩ := h; exact eqsome29

/-- The state of a search. -/
def SS (sb : St) (bs : Nat) (v : Value) (used : List Bool) (pre : List Int) (best : Option (List Int)) (most : Int) (s : St) : Prop :=
  ∃ nv bo bv bb, Old sb s ∧ s.get bs = some ⟨scells v nv used bv most, .rw⟩ ∧ Grew s (bs + 1) nv 1 pre.length (ic pre) bo ∧ BestV s (bs + 1) bv best bb ∧ ∀ c, bo = some c → bb ≠ some c
theorem ss_new {sb : St} {bs : Nat} {v nv cv bv : Value} {used : List Bool} {pre : List Int} {sum most : Int} {bo bc : Option Nat} {s t s' : St} (ho : Old sb s) (hS : s.get bs = some ⟨scells v nv used bv most, .rw⟩) (hgr : Grew s (bs + 1) nv 1 pre.length (ic pre) bo) (hgc : Grew t s.size cv 1 pre.length (ic pre) bc) (hoc : Old s t)
    (hS7 : s'.get bs = some ⟨scells v nv used cv sum, .rw⟩) (hsame : Same [bs] t s') (hbs : sb.size ≤ bs) (hpos : 0 < pre.length) : SS sb bs v used pre (some pre) sum s' := by
  have hlt := St.get_lt hS
  rcases hgc with ⟨_, _, h, _⟩ | ⟨c, rfl, h1, h2⟩
  · omega
  · refine ⟨nv, bo, cv, some c, Same.older (ho.trans hoc) hsame (by simpa using hbs), hS7, (hgr.same (hoc.same []) (by simp)).same hsame ?_, ⟨hpos, c, rfl, by omega, h2.keep (hsame.2.1 c h2.lt (by simp; omega))⟩, ?_⟩
    · intro d hd hm
      have := hgr.ge hd
      simp at hm
      omega
    · rintro d rfl e
      cases e
      have := hgr.lt.1
      omega

set_option maxHeartbeats 4000000 in
set_option maxRecDepth 100000 in
theorem c41 (hK : Late K) {M : List (List Int)} (hB : Bids M) {sb : St} {bs : Nat} {v : Value} (hv : MRow sb v M) (hbs : sb.size ≤ bs) : ∀ (m : Nat) (pre : List Int) (used : List Bool) (sum : Int) (best : Option (List Int)) (most : Int) (s : St), M.length - pre.length = m → Pre M pre used sum → BestOk M best most → SS sb bs v used pre best most s →
    Ev Try.prog K (.func (.func 41) #[] #[]) [.pointer (some ⟨bs, 0, none⟩), .int .i64 pre.length, .int .i64 sum] s fun _ s' => ∃ best' most', Found M (Ext M.length pre) best most best' most' ∧ SS sb bs v used pre best' most' s' := by
  obtain ⟨rv, hR, hrow⟩ := hv
  intro m
  induction m using Nat.strongRecOn with
  | ind m ihm =>
  intro pre used sum best most s hm hP hbest hSS
  have ih : ∀ (pre' : List Int) (used' : List Bool) (sum' : Int) (best' : Option (List Int)) (most' : Int) (s' : St), M.length - pre'.length < m → Pre M pre' used' sum' → BestOk M best' most' → SS sb bs v used' pre' best' most' s' →
    Ev Try.prog K (.func (.func 41) #[] #[]) [.pointer (some ⟨bs, 0, none⟩), .int .i64 pre'.length, .int .i64 sum'] s' fun _ s'' => ∃ best'' most'', Found M (Ext M.length pre') best' most' best'' most'' ∧ SS sb bs v used' pre' best'' most'' s'' := fun pre' used' sum' best' most' s' h => ihm _ h pre' used' sum' best' most' s' rfl
  clear ihm
  obtain ⟨nv, bo, bv, bb, ho, hS, hgr, hbv, hdis⟩ := hSS
  refine Ev.enterK (hK.none (by decide) _) Try.func41 rfl rfl (Nat.le_of_ble_eq_true rfl) ?_
  refine Wc.tail ?_
  refine Wc.assoc ?_
  refine Wc.assoc ?_
  refine Wc.region ?_
  refine Wk.q rfl rfl rfl (Qk.move rfl) ?_
  refine Wk.q rfl rfl rfl (Qk.move rfl) ?_
  refine Wk.q rfl rfl rfl (Qk.nilCheck rfl rfl) ?_
  refine Wk.q rfl rfl rfl (Qk.fa rfl fd81_0) ?_
  refine Wk.r rfl rfl rfl (Rk.cell rfl sh22 (by first | assumption | repeat (first | exact gnew | exact gsetn gnew | assumption | exact gsetn (by assumption) | refine gpush ?_ | refine gset ?_ (by simp; omega) )) (by simp) rfl) ?_
  refine Wk.q rfl rfl rfl (Qk.lenR rfl rfl rfl hR sl22) ?_
  refine Wk.b rfl rfl rfl (Qk.bin rfl rfl rfl) fun b h14 => ?_
  cases b
  · -- t14 = False
    have hne : pre.length ≠ M.length := by
      intro e
      rw [e] at h14
      simp at h14
    have hlt : pre.length < M.length := by have := hP.le; omega
    have hrw := (hrow pre.length hlt).old ho
    have hlen := hB.square pre.length hlt
    refine Wk.next ?_
    refine Wc.condF rfl ?_
    refine Wc.skip ?_
    refine Wc.assoc ?_
    refine Wc.assoc ?_
    refine Wc.region ?_
    refine Wk.q rfl rfl rfl (Qk.move rfl) ?_
    refine Wk.q rfl rfl rfl (Qk.move rfl) ?_
    refine Wk.q rfl rfl rfl (Qk.nilCheck rfl rfl) ?_
    refine Wk.q rfl rfl rfl (Qk.fa rfl fd81_1) ?_
    refine Wk.r rfl rfl rfl (Rk.cell rfl sh3 (by first | assumption | repeat (first | exact gnew | exact gsetn gnew | assumption | exact gsetn (by assumption) | refine gpush ?_ | refine gset ?_ (by simp; omega) )) (by simp) rfl) ?_
    refine Wk.b rfl rfl rfl (Qk.bin rfl rfl rfl) fun b h45 => ?_
    obtain rfl : b = false := by rw [← h45]; exact beq_eq_false_iff_ne.2 (by omega) -- t45
    refine Wk.next ?_
    refine Wc.condF rfl ?_
    refine Wc.skip ?_
    refine Wc.assoc ?_
    refine Wc.region ?_
    refine Wk.q rfl rfl rfl (Qk.move rfl) ?_
    refine Wk.q rfl rfl rfl (Qk.nilCheck rfl rfl) ?_
    refine Wk.q rfl rfl rfl (Qk.fa rfl fd81_0) ?_
    refine Wk.r rfl rfl rfl (Rk.cell rfl sh22 (by first | assumption | repeat (first | exact gnew | exact gsetn gnew | assumption | exact gsetn (by assumption) | refine gpush ?_ | refine gset ?_ (by simp; omega) )) (by simp) rfl) ?_
    refine Wk.q rfl rfl rfl (Qk.move rfl) ?_
    refine Wk.q rfl rfl rfl (Qk.at rfl rfl ar22 sl22 (hR.old (by assumption)) (by constructor <;> omega)) ?_
    refine Wk.r rfl rfl rfl (Rk.atS rfl sh29 (hR.old (by assumption)) (i := pre.length) (by omega) rfl) ?_
    refine Wk.q rfl rfl rfl (Qk.lenR rfl rfl rfl hrw sl29) ?_
    refine Wk.q rfl rfl rfl (Qk.move rfl) ?_
    refine Wk.next ?_
    refine Wc.block ?_
    refine Wc.loop (σ := Nat × Option (List Int) × Int × St) (fun y => y.1 ≤ M.length ∧ SS sb bs v used pre y.2.1 y.2.2.1 y.2.2.2 ∧ Found M (upTo M.length pre y.1) best most y.2.1 y.2.2.1)
      (fun y => [(0, .pointer (some ⟨bs, 0, none⟩)), (1, .int .i64 pre.length), (2, .int .i64 sum), (75, rv pre.length), (76, goInt (rowM M pre.length).length), (77, .int .i64 y.1)]) (fun y => y.2.2.2) (fun y => M.length - y.1) (0, best, most, s)
      ⟨Nat.zero_le _, ⟨nv, bo, bv, bb, ho, hS, hgr, hbv, hdis⟩, (Found.refl hbest).less fun x hx => absurd hx.2 (Nat.not_lt_zero _)⟩ ⟨rfl, rfl, rfl, rfl, rfl, rfl, trivial⟩ rfl ?_
    clear ho hS hgr hbv hdis hrw
    rintro ⟨j, best1, most1, sa⟩ ⟨hj, ⟨nv, bo, bv, bb, ho, hS, hgr, hbv, hdis⟩, hf1⟩
    dsimp only at hj ho hS hgr hbv hdis hf1 ⊢
    have hrw := (hrow pre.length hlt).old ho
    refine Wc.assoc ?_
    refine Wc.region ?_
    refine Wk.b rfl rfl rfl (Qk.bin rfl rfl rfl) fun b h78 => ?_
    cases b
    · -- t78 = False
      refine Wk.next ?_
      refine Wc.assoc ?_
      refine Wc.condF rfl ?_
      refine Wc.jump (fun _ _ => rfl) ?_
      refine Wc.finish fun fr hf => ?_
      have hge : M.length ≤ j := by
        have : ¬ ((j : Int) < ((rowM M pre.length).length : Int)) := of_decide_eq_false h78
        omega
      refine ⟨_, rfl, best1, most1, hf1.less fun x hx => ⟨hx, ?_⟩, ⟨nv, bo, bv, bb, ho, hS, hgr, hbv, hdis⟩⟩
      have := hx.1.lt pre.length hlt
      omega
    · -- t78 = True
      have hjm : j < M.length := by
        have : (j : Int) < ((rowM M pre.length).length : Int) := of_decide_eq_true h78
        omega
      have hj6 : j < 6 := by have := hB.most; omega
      have hu6 := hP.six
      refine Wk.next ?_
      refine Wc.assoc ?_
      refine Wc.condT rfl ?_
      refine Wc.skip ?_
      refine Wc.assoc ?_
      refine Wc.block ?_
      refine Wc.assoc ?_
      refine Wc.region ?_
      refine Wk.q rfl rfl rfl (Qk.move rfl) ?_
      refine Wk.q rfl rfl rfl (Qk.at rfl rfl ar29 sl29 hrw (by constructor <;> omega)) ?_
      refine Wk.r rfl rfl rfl (Rk.intR rfl sh3 hrw (i := j) (by omega)) ?_
      refine Wk.q rfl rfl rfl (Qk.assign rfl) ?_
      refine Wk.q rfl rfl rfl (Qk.assign rfl) ?_
      refine Wk.next ?_
      refine Wc.assoc ?_
      refine Wc.region ?_
      refine Wk.q rfl rfl rfl (Qk.move rfl) ?_
      refine Wk.q rfl rfl rfl (Qk.move rfl) ?_
      refine Wk.q rfl rfl rfl (Qk.nilCheck rfl rfl) ?_
      refine Wk.q rfl rfl rfl (Qk.fa rfl fd81_3) ?_
      refine Wk.q rfl rfl rfl (Qk.iaA rfl rfl ar79 (by constructor <;> omega)) ?_
      refine Wk.rb rfl rfl rfl (Rk.cell rfl sh4 (by first | assumption | repeat (first | exact gnew | exact gsetn gnew | assumption | exact gsetn (by assumption) | refine gpush ?_ | refine gset ?_ (by simp; omega) )) (by simp) (getU (by omega))) fun b h87 => ?_
      cases b
      · -- t87 = False
        refine Wk.q rfl rfl rfl (Qk.not rfl) ?_
        refine Wk.next ?_
        refine Wc.condT rfl ?_
        refine Wc.assoc ?_
        refine Wc.region ?_
        refine Wk.q rfl rfl rfl (Qk.move rfl) ?_
        refine Wk.q rfl rfl rfl (Qk.move rfl) ?_
        refine Wk.q rfl rfl rfl (Qk.nilCheck rfl rfl) ?_
        refine Wk.q rfl rfl rfl (Qk.fa rfl fd81_3) ?_
        refine Wk.q rfl rfl rfl (Qk.iaA rfl rfl ar79 (by constructor <;> omega)) ?_
        refine Wk.h rfl rfl rfl (Hk.cell rfl rfl sh4 (by first | assumption | repeat (first | exact gnew | exact gsetn gnew | assumption | exact gsetn (by assumption) | refine gpush ?_ | refine gset ?_ (by simp; omega) )) (by first | exact Nat.le_of_ble_eq_true rfl | (simp; done) | (simp; omega)) (by first | rfl | assumption) (by first | rfl | assumption)) ?_
        refine Wk.next ?_
        refine Wc.store fun s1 e1 => ?_
        have hS1 : s1.get bs = some ⟨scells v nv (used.set j true) bv most1, .rw⟩ := by subst e1; rw [← setU hj6 hu6]; exact gsetn hS
        have hbsz : bs < sa.size := St.get_lt hS
        have hsame1 : Same [bs] sa s1 := by subst e1; exact (Same.refl _ _).set (.inr (by simp))
        have ho1 : Old sb s1 := Same.older ho hsame1 (by simpa using hbs)
        have hgr1 := hgr.same hsame1 (by intro c hc hm; have := hgr.ge hc; simp at hm; omega)
        have hbv1 := hbv.same hsame1 (by intro c hc hm; have := hbv.ge hc; simp at hm; omega)
        refine Wc.assoc ?_
        refine Wc.region ?_
        refine Wk.q rfl rfl rfl (Qk.move rfl) ?_
        refine Wk.q rfl rfl rfl (Qk.move rfl) ?_
        refine Wk.q rfl rfl rfl (Qk.nilCheck rfl rfl) ?_
        refine Wk.q rfl rfl rfl (Qk.fa rfl fd81_2) ?_
        refine Wk.r rfl rfl rfl (Rk.cell rfl sh29 (by first | assumption | repeat (first | exact gnew | exact gsetn gnew | assumption | exact gsetn (by assumption) | refine gpush ?_ | refine gset ?_ (by simp; omega) )) (by simp) rfl) ?_
        refine Wk.q rfl rfl rfl (Qk.move rfl) ?_
        refine Wk.f rfl rfl rfl (Fk.one rfl rfl sl29 ze3 rfl rfl rfl (by decide)) ?_
        refine Wk.store' fun s2 e2 => ?_
        have hS2 : s2.get bs = some ⟨scells v nv (used.set j true) bv most1, .rw⟩ := by subst e2; exact gpush hS1
        have hsame2 : Same [] s1 s2 := by subst e2; exact (Same.refl _ _).push _
        have ho2 : Old sb s2 := Same.older ho1 hsame2 (by simp)
        have hgr2 := hgr1.same hsame2 (by simp)
        have hbv2 := hbv1.same hsame2 (by simp)
        have hone : IRow s2 (.slice (some ⟨s1.size, 0, none⟩) 1 1) [(j : Int)] := by subst e2; exact IRow.of_get (l := [(j : Int)]) gnew (by simp) (Nat.le_refl _)
        have hbs2 : bs < s2.size := St.get_lt hS2
        obtain ⟨nv3, t3, bo3, hap, hgr3, hb3, hsame3⟩ := append_ints ap29 hgr2 (by omega) hone (by have := hP.le; have := hB.most; simp; omega)
        have hS3 : t3.get bs = some ⟨scells v nv (used.set j true) bv most1, .rw⟩ := hsame3.get hS2 (by intro hm; cases bo with | none => simp at hm | some c => simp at hm; have := hgr2.ge rfl; omega)
        have hbv3 := hbv2.same hsame3 (by intro c hc hm; cases bo with | none => simp at hm | some d => simp at hm; exact hdis d rfl (by rw [hc, hm]))
        have ho3 : Old sb t3 := Same.older ho2 hsame3 (by intro x hx; cases bo with | none => simp at hx | some c => simp at hx; have := hgr2.ge rfl; omega)
        obtain ⟨hc3a, hc3b, hc3c⟩ := hgr3.sc
        refine Wk.h rfl rfl rfl (Hk.append rfl rfl rfl rfl (by assumption)) ?_
        refine Wk.q rfl rfl rfl (Qk.nilCheck rfl rfl) ?_
        refine Wk.q rfl rfl rfl (Qk.fa rfl fd81_2) ?_
        refine Wk.h rfl rfl rfl (Hk.cell rfl rfl sh29 (by first | assumption | repeat (first | exact gnew | exact gsetn gnew | assumption | exact gsetn (by assumption) | refine gpush ?_ | refine gset ?_ (by simp; omega) )) (by first | exact Nat.le_of_ble_eq_true rfl | (simp; done) | (simp; omega)) (by first | rfl | assumption) (by first | rfl | assumption)) ?_
        refine Wk.next ?_
        refine Wc.store fun s3 e3 => ?_
        have hsame4 : Same [bs] t3 s3 := by subst e3; exact (Same.refl _ _).set (.inr (by simp))
        have hS4 : s3.get bs = some ⟨scells v nv3 (used.set j true) bv most1, .rw⟩ := by subst e3; exact gsetn hS3
        have ho4 : Old sb s3 := Same.older ho3 hsame4 (by simpa using hbs)
        have hgr4 := hgr3.same hsame4 (by intro c hc hm; have := hgr3.ge hc; simp at hm; omega)
        have hbv4 := hbv3.same hsame4 (by intro c hc hm; have := hbv3.ge hc; simp at hm; omega)
        have hnewb : ∀ c, bo3 = some c → bb ≠ some c := by
          intro c hc hbc
          rcases hb3 with h | h
          · exact hdis c (by rw [← h, hc]) hbc
          · have e1 := hbv2.lt hbc
            rw [h] at hc
            cases hc
            omega
        have hP' := hP.step hlt hB.most hjm h87
        have hm6 := hB.most
        have hbnd := hP.bound hB
        have hrng : 0 ≤ (rowM M pre.length).getD j 0 ∧ (rowM M pre.length).getD j 0 ≤ 1000000 := hB.range pre.length j hlt hjm
        refine Wc.assoc ?_
        refine Wc.region ?_
        refine Wk.q rfl rfl rfl (Qk.move rfl) ?_
        refine Wk.q rfl rfl rfl (Qk.move rfl) ?_
        refine Wk.q rfl rfl rfl (Qk.add rfl rfl (by omega)) ?_
        refine Wk.q rfl rfl rfl (Qk.move rfl) ?_
        refine Wk.q rfl rfl rfl (Qk.move rfl) ?_
        refine Wk.q rfl rfl rfl (Qk.add rfl rfl (by omega)) ?_
        have hcall := ih (pre ++ [(j : Int)]) (used.set j true) (sum + matM M pre.length j) best1 most1 s3 (by simp; omega) hP' hf1.ok ⟨nv3, bo3, bv, bb, ho4, hS4, by simpa [ic] using hgr4, hbv4, hnewb⟩
        rw [show (((pre ++ [(j : Int)]).length : Nat) : Int) = (pre.length : Int) + 1 by simp] at hcall
        refine Wk.c rfl rfl rfl (Ck.call rfl rfl) ((hcall).mono ?_)
        rintro r5 t5 ⟨best5, most5, hf5, nv5, bo5, bv5, bb5, ho5, hS5, hgr5, hbv5, hdis5⟩
        refine Wk.next ?_
        refine Wc.assoc ?_
        refine Wc.region ?_
        refine Wk.q rfl rfl rfl (Qk.move rfl) ?_
        refine Wk.q rfl rfl rfl (Qk.move rfl) ?_
        refine Wk.q rfl rfl rfl (Qk.nilCheck rfl rfl) ?_
        refine Wk.q rfl rfl rfl (Qk.fa rfl fd81_2) ?_
        refine Wk.r rfl rfl rfl (Rk.cell rfl sh29 (by first | assumption | repeat (first | exact gnew | exact gsetn gnew | assumption | exact gsetn (by assumption) | refine gpush ?_ | refine gset ?_ (by simp; omega) )) (by simp) rfl) ?_
        refine Wk.q rfl rfl rfl (Qk.move rfl) ?_
        obtain ⟨c5, hc5, hown5⟩ : ∃ c, bo5 = some c ∧ OwnAt t5 nv5 1 (pre ++ [(j : Int)]).length c (ic (pre ++ [(j : Int)])) := by
          rcases hgr5 with ⟨_, _, h, _⟩ | ⟨c, h1, h2, h3⟩
          · simp at h
          · exact ⟨c, h1, h3⟩
        have hge5 := hgr5.ge hc5
        obtain ⟨nv6, hsl, hown6⟩ := slice_own (kd := .i64) ar29 sl29 (by decide) hown5 (c := (pre.length : Int)) (by simp; omega)
        have hown6' : OwnAt t5 nv6 1 pre.length c5 (ic pre) := by
          have e1 : (ic (pre ++ [(j : Int)])).take ((pre.length : Int).toNat * 1) = ic pre := by simp [ic]
          rw [← e1]
          exact hown6
        obtain ⟨hc6a, hc6b, hc6c⟩ := hown6'.sc
        refine Wk.r rfl rfl rfl (Rk.slice rfl rfl rfl rfl (by assumption)) ?_
        refine Wk.q rfl rfl rfl (Qk.nilCheck rfl rfl) ?_
        refine Wk.q rfl rfl rfl (Qk.fa rfl fd81_2) ?_
        refine Wk.h rfl rfl rfl (Hk.cell rfl rfl sh29 (by first | assumption | repeat (first | exact gnew | exact gsetn gnew | assumption | exact gsetn (by assumption) | refine gpush ?_ | refine gset ?_ (by simp; omega) )) (by first | exact Nat.le_of_ble_eq_true rfl | (simp; done) | (simp; omega)) (by first | rfl | assumption) (by first | rfl | assumption)) ?_
        refine Wk.next ?_
        refine Wc.store fun s4 e4 => ?_
        have hsame6 : Same [bs] t5 s4 := by subst e4; exact (Same.refl _ _).set (.inr (by simp))
        have hS6 : s4.get bs = some ⟨scells v nv6 (used.set j true) bv5 most5, .rw⟩ := by subst e4; exact gsetn hS5
        refine Wc.region ?_
        refine Wk.q rfl rfl rfl (Qk.move rfl) ?_
        refine Wk.q rfl rfl rfl (Qk.move rfl) ?_
        refine Wk.q rfl rfl rfl (Qk.nilCheck rfl rfl) ?_
        refine Wk.q rfl rfl rfl (Qk.fa rfl fd81_3) ?_
        refine Wk.q rfl rfl rfl (Qk.iaA rfl rfl ar79 (by constructor <;> omega)) ?_
        refine Wk.h rfl rfl rfl (Hk.cell rfl rfl sh4 (by first | assumption | repeat (first | exact gnew | exact gsetn gnew | assumption | exact gsetn (by assumption) | refine gpush ?_ | refine gset ?_ (by simp; omega) )) (by first | exact Nat.le_of_ble_eq_true rfl | (simp; done) | (simp; omega)) (by first | rfl | assumption) (by first | rfl | assumption)) ?_
        refine Wk.next ?_
        refine Wc.store fun s5 e5 => ?_
        have hsame7 : Same [bs] s4 s5 := by subst e5; exact (Same.refl _ _).set (.inr (by simp))
        have hS7 : s5.get bs = some ⟨scells v nv6 used bv5 most5, .rw⟩ := by
          subst e5
          rw [show scells v nv6 used bv5 most5 = (scells v nv6 (used.set j true) bv5 most5).set (0 + 3 + (j : Int).toNat * 1) (.bool false) by rw [setU hj6 (by simpa using hu6), used_back hP hB.most hjm h87]]
          exact gsetn hS6
        have hsame8 := hsame6.trans hsame7
        have ho8 : Old sb s5 := Same.older ho5 hsame8 (by simpa using hbs)
        have hgr8 : Grew s5 (bs + 1) nv6 1 pre.length (ic pre) (some c5) := (Grew.same (.inr ⟨c5, rfl, hge5, hown6'⟩) hsame8 (by intro c hc hm; cases hc; simp at hm; omega))
        have hbv8 := hbv5.same hsame8 (by intro c hc hm; have := hbv5.ge hc; simp at hm; omega)
        refine Wc.thence (fun _ _ => rfl) ?_
        refine Wc.region ?_
        refine Wk.q rfl rfl rfl (Qk.add rfl rfl (by omega)) ?_
        refine Wk.q rfl rfl rfl (Qk.move rfl) ?_
        refine Wk.next ?_
        refine Wc.finish fun fr hf => ?_
        refine ⟨(j + 1, best5, most5, s5), ⟨hjm, ⟨nv6, some c5, bv5, bb5, ho8, hS7, hgr8, hbv8, fun c hc => hdis5 c (by rw [hc5, ← hc])⟩, (hf1.then hf5).less fun x hx => upTo_step hx⟩, by dsimp only; omega, rfl, hf.less ⟨rfl, rfl, rfl, rfl, rfl, rfl, trivial⟩⟩
      · -- t87 = True
        refine Wk.q rfl rfl rfl (Qk.not rfl) ?_
        refine Wk.next ?_
        refine Wc.condF rfl ?_
        refine Wc.skip ?_
        refine Wc.thence (fun _ _ => rfl) ?_
        refine Wc.region ?_
        refine Wk.q rfl rfl rfl (Qk.add rfl rfl (by omega)) ?_
        refine Wk.q rfl rfl rfl (Qk.move rfl) ?_
        refine Wk.next ?_
        refine Wc.finish fun fr hf => ?_
        refine ⟨(j + 1, best1, most1, sa), ⟨hjm, ⟨nv, bo, bv, bb, ho, hS, hgr, hbv, hdis⟩, hf1.less fun x hx => upTo_used hP hlt hjm h87 hx⟩, by dsimp only; omega, rfl, hf.less ⟨rfl, rfl, rfl, rfl, rfl, rfl, trivial⟩⟩
  · -- t14 = True
    have hnn : pre.length = M.length := by
      have : (pre.length : Int) = M.length := eq_of_beq h14
      omega
    have hpos : 0 < pre.length := by have := hB.pos; omega
    refine Wk.next ?_
    refine Wc.condT rfl ?_
    refine Wc.assoc ?_
    refine Wc.assoc ?_
    refine Wc.region ?_
    refine Wk.q rfl rfl rfl (Qk.move rfl) ?_
    refine Wk.q rfl rfl rfl (Qk.nilCheck rfl rfl) ?_
    refine Wk.q rfl rfl rfl (Qk.fa rfl fd81_4) ?_
    refine Wk.r rfl rfl rfl (Rk.cell rfl sh29 (by first | assumption | repeat (first | exact gnew | exact gsetn gnew | assumption | exact gsetn (by assumption) | refine gpush ?_ | refine gset ?_ (by simp; omega) )) (by simp) rfl) ?_
    refine Wk.b rfl rfl rfl (Qk.bin rfl rfl (eq29 hbv)) fun b h19 => ?_
    cases b
    · -- t19 = False
      refine Wk.q rfl rfl rfl (Qk.move rfl) ?_
      refine Wk.q rfl rfl rfl (Qk.move rfl) ?_
      refine Wk.q rfl rfl rfl (Qk.move rfl) ?_
      refine Wk.q rfl rfl rfl (Qk.nilCheck rfl rfl) ?_
      refine Wk.q rfl rfl rfl (Qk.fa rfl fd81_5) ?_
      refine Wk.r rfl rfl rfl (Rk.cell rfl sh3 (by first | assumption | repeat (first | exact gnew | exact gsetn gnew | assumption | exact gsetn (by assumption) | refine gpush ?_ | refine gset ?_ (by simp; omega) )) (by simp) rfl) ?_
      refine Wk.b rfl rfl rfl (Qk.bin rfl rfl rfl) fun b h26 => ?_
      cases b
      · -- t26 = False
        refine Wk.q rfl rfl rfl (Qk.pickF rfl rfl) ?_
        refine Wk.next ?_
        refine Wc.condF rfl ?_
        refine Wc.skip ?_
        refine Wc.done'' (fun _ _ => rfl) rfl ?_
        refine ⟨best, most, found_old hP hnn hbest (by rintro rfl; simp at h19) (of_decide_eq_false h26), ⟨nv, bo, bv, bb, ho, hS, hgr, hbv, hdis⟩⟩
      · -- t26 = True
        refine Wk.q rfl rfl rfl (Qk.pickF rfl rfl) ?_
        refine Wk.next ?_
        refine Wc.condT rfl ?_
        refine Wc.region ?_
        refine Wk.q rfl rfl rfl (Qk.move rfl) ?_
        refine Wk.q rfl rfl rfl (Qk.move rfl) ?_
        refine Wk.q rfl rfl rfl (Qk.move rfl) ?_
        refine Wk.q rfl rfl rfl (Qk.nilCheck rfl rfl) ?_
        refine Wk.q rfl rfl rfl (Qk.fa rfl fd81_2) ?_
        refine Wk.r rfl rfl rfl (Rk.cell rfl sh29 (by first | assumption | repeat (first | exact gnew | exact gsetn gnew | assumption | exact gsetn (by assumption) | refine gpush ?_ | refine gset ?_ (by simp; omega) )) (by simp) rfl) ?_
        have hpl := hP.le
        have hm6 := hB.most
        have hcl := c61 hK hgr.irow (by omega)
        refine Wk.c rfl rfl rfl (Ck.call rfl rfl) ((hcl).mono ?_)
        rintro cv t6 ⟨bc, hgc, hoc⟩
        obtain ⟨hca, hcb, hcc⟩ := hgc.sc
        have hS6 : t6.get bs = some ⟨scells v nv used bv most, .rw⟩ := hoc.get hS
        have hbsz : bs < s.size := St.get_lt hS
        refine Wk.q rfl rfl rfl (Qk.move rfl) ?_
        refine Wk.q rfl rfl rfl (Qk.nilCheck rfl rfl) ?_
        refine Wk.q rfl rfl rfl (Qk.fa rfl fd81_4) ?_
        refine Wk.h rfl rfl rfl (Hk.cell rfl rfl sh29 (by first | assumption | repeat (first | exact gnew | exact gsetn gnew | assumption | exact gsetn (by assumption) | refine gpush ?_ | refine gset ?_ (by simp; omega) )) (by first | exact Nat.le_of_ble_eq_true rfl | (simp; done) | (simp; omega)) (by first | rfl | assumption) (by first | rfl | assumption)) ?_
        refine Wk.q rfl rfl rfl (Qk.nilCheck rfl rfl) ?_
        refine Wk.q rfl rfl rfl (Qk.fa rfl fd81_5) ?_
        refine Wk.h rfl rfl rfl (Hk.cell rfl rfl sh3 (by first | assumption | repeat (first | exact gnew | exact gsetn gnew | assumption | exact gsetn (by assumption) | refine gpush ?_ | refine gset ?_ (by simp; omega) )) (by first | exact Nat.le_of_ble_eq_true rfl | (simp; done) | (simp; omega)) (by first | rfl | assumption) (by first | rfl | assumption)) ?_
        refine Wk.next ?_
        refine Wc.store fun s6 e6 => ?_
        have hS7 : s6.get bs = some ⟨scells v nv used cv sum, .rw⟩ := by subst e6; rw [show scells v nv used cv sum = ((scells v nv used bv most).set (0 + 9) cv).set (0 + 10) (.int .i64 sum) from rfl]; exact gsetn (gsetn hS6)
        have hsame7 : Same [bs] t6 s6 := by subst e6; exact ((Same.refl _ _).set (.inr (by simp))).set (.inr (by simp))
        refine Wc.done'' (fun _ _ => rfl) rfl ?_
        have hcond : best = none ∨ sum > most := by
          first
          | exact .inr (of_decide_eq_true h26)
          | exact .inl (by simpa using h19)
        exact ⟨some pre, sum, found_new hP hnn hbest hcond, ss_new ho hS hgr hgc hoc hS7 hsame7 hbs hpos⟩
    · -- t19 = True
      refine Wk.q rfl rfl rfl (Qk.move rfl) ?_
      refine Wk.no rfl rfl rfl ?_
      refine Wk.no rfl rfl rfl ?_
      refine Wk.no rfl rfl rfl ?_
      refine Wk.no rfl rfl rfl ?_
      refine Wk.no rfl rfl rfl ?_
      refine Wk.no rfl rfl rfl ?_
      refine Wk.q rfl rfl rfl (Qk.pickT rfl rfl) ?_
      refine Wk.next ?_
      refine Wc.condT rfl ?_
      refine Wc.region ?_
      refine Wk.q rfl rfl rfl (Qk.move rfl) ?_
      refine Wk.q rfl rfl rfl (Qk.move rfl) ?_
      refine Wk.q rfl rfl rfl (Qk.move rfl) ?_
      refine Wk.q rfl rfl rfl (Qk.nilCheck rfl rfl) ?_
      refine Wk.q rfl rfl rfl (Qk.fa rfl fd81_2) ?_
      refine Wk.r rfl rfl rfl (Rk.cell rfl sh29 (by first | assumption | repeat (first | exact gnew | exact gsetn gnew | assumption | exact gsetn (by assumption) | refine gpush ?_ | refine gset ?_ (by simp; omega) )) (by simp) rfl) ?_
      have hpl := hP.le
      have hm6 := hB.most
      have hcl := c61 hK hgr.irow (by omega)
      refine Wk.c rfl rfl rfl (Ck.call rfl rfl) ((hcl).mono ?_)
      rintro cv t6 ⟨bc, hgc, hoc⟩
      obtain ⟨hca, hcb, hcc⟩ := hgc.sc
      have hS6 : t6.get bs = some ⟨scells v nv used bv most, .rw⟩ := hoc.get hS
      have hbsz : bs < s.size := St.get_lt hS
      refine Wk.q rfl rfl rfl (Qk.move rfl) ?_
      refine Wk.q rfl rfl rfl (Qk.nilCheck rfl rfl) ?_
      refine Wk.q rfl rfl rfl (Qk.fa rfl fd81_4) ?_
      refine Wk.h rfl rfl rfl (Hk.cell rfl rfl sh29 (by first | assumption | repeat (first | exact gnew | exact gsetn gnew | assumption | exact gsetn (by assumption) | refine gpush ?_ | refine gset ?_ (by simp; omega) )) (by first | exact Nat.le_of_ble_eq_true rfl | (simp; done) | (simp; omega)) (by first | rfl | assumption) (by first | rfl | assumption)) ?_
      refine Wk.q rfl rfl rfl (Qk.nilCheck rfl rfl) ?_
      refine Wk.q rfl rfl rfl (Qk.fa rfl fd81_5) ?_
      refine Wk.h rfl rfl rfl (Hk.cell rfl rfl sh3 (by first | assumption | repeat (first | exact gnew | exact gsetn gnew | assumption | exact gsetn (by assumption) | refine gpush ?_ | refine gset ?_ (by simp; omega) )) (by first | exact Nat.le_of_ble_eq_true rfl | (simp; done) | (simp; omega)) (by first | rfl | assumption) (by first | rfl | assumption)) ?_
      refine Wk.next ?_
      refine Wc.store fun s7 e7 => ?_
      have hS7 : s7.get bs = some ⟨scells v nv used cv sum, .rw⟩ := by subst e7; rw [show scells v nv used cv sum = ((scells v nv used bv most).set (0 + 9) cv).set (0 + 10) (.int .i64 sum) from rfl]; exact gsetn (gsetn hS6)
      have hsame7 : Same [bs] t6 s7 := by subst e7; exact ((Same.refl _ _).set (.inr (by simp))).set (.inr (by simp))
      refine Wc.done'' (fun _ _ => rfl) rfl ?_
      have hcond : best = none ∨ sum > most := .inl (by simpa using h19)
      exact ⟨some pre, sum, found_new hP hnn hbest hcond, ss_new ho hS hgr hgc hoc hS7 hsame7 hbs hpos⟩

theorem Asg.id {n : Nat} : Asg n (fun i => i) := ⟨fun _ h => h, fun _ _ _ _ h => h⟩
theorem Pre.nil {M : List (List Int)} (hB : Bids M) : Pre M [] (List.replicate 6 false) 0 := ⟨Nat.zero_le _, by simp, by simp, rfl, fun j hj => by
  have := hB.most
  have h6 : j < 6 := by omega
  have h7 : (List.replicate 6 false).getD j false = false := by
    match j, h6 with
    | 0, _ => rfl
    | 1, _ => rfl
    | 2, _ => rfl
    | 3, _ => rfl
    | 4, _ => rfl
    | 5, _ => rfl
  rw [h7]; simp, rfl⟩
theorem build81 {a : Option Addr} {n cap : Nat} : abuild Try.prog 81 [(0, .slice a n cap), (1, .int .i64 (-1))] = some (.agg #[.slice a n cap, .int .i64 (-1), .slice none 0 0, .bool false, .bool false, .bool false, .bool false, .bool false, .bool false, .slice none 0 0, .int .i64 0]) := by
  simp only [abuild, fo81, ze81, afill, placeOf, fd81_0, fd81_1]
  simp [Value.cells, isVal, splice]

theorem Row.sc {s : St} {v : Value} {n sz : Nat} {g : Nat → List Value} (h : Row s v n sz g) : v.cells = #[v] ∧ scalar v = true ∧ isVal v = true := by
  obtain ⟨a, cap, rfl, _⟩ := h
  exact ⟨rfl, rfl, rfl⟩

set_option maxHeartbeats 4000000 in
set_option maxRecDepth 100000 in
theorem c25 (hK : Late K) {M : List (List Int)} (hB : Bids M) {v : Value} {s : St} (hm : MRow s v M) :
    Ev Try.prog K (.func (.func 25) #[] #[]) [v, .int .i64 (-1)] s fun r s' => ∃ b bv c, r = .tuple #[bv, .int .i64 (valOf M.length (matM M) (asgOf b))] ∧ OwnAt s' bv 1 b.length c (ic b) ∧ s.size ≤ c ∧ AsgL M.length b ∧ Opt M.length (matM M) (asgOf b) ∧ Old s s' := by
  have hm0 := hm
  obtain ⟨rv, ⟨a, cap, rfl, _⟩, _⟩ := hm0
  refine Ev.enterK (hK.none (by decide) _) Try.func25 rfl rfl (Nat.le_of_ble_eq_true rfl) ?_
  refine Wc.tail ?_
  refine Wc.assoc ?_
  refine Wc.region ?_
  refine Wk.q rfl rfl rfl (Qk.assign rfl) ?_
  refine Wk.q rfl rfl rfl (Qk.assign rfl) ?_
  refine Wk.next ?_
  refine Wc.assoc ?_
  refine Wc.region ?_
  refine Wk.q rfl rfl rfl (Qk.move rfl) ?_
  refine Wk.q rfl rfl rfl (Qk.move rfl) ?_
  refine Wk.q rfl rfl rfl (Qk.build rfl build81) ?_
  refine Wk.f rfl rfl rfl (Fk.alloc ze81) ?_
  refine Wk.h rfl rfl rfl (Hk.whole rfl rfl sh81 (by first | assumption | repeat (first | exact gnew | exact gsetn gnew | assumption | exact gsetn (by assumption) | refine gpush ?_ | refine gset ?_ (by simp; omega) )) rfl rfl (by first | rfl | (show (true && (Abs.scalar _ && true)) = true; rw [Bool.true_and, Bool.and_true]; assumption))) ?_
  refine Wk.next ?_
  refine Wc.store fun s1 e1 => ?_
  have ho1 : Old s s1 := by subst e1; exact (Old.push _ _).gset (Nat.le_refl _)
  have hS1 : s1.get s.size = some ⟨scells (.slice a M.length cap) (.slice none 0 0) (List.replicate 6 false) (.slice none 0 0) 0, .rw⟩ := by subst e1; exact gsetn gnew
  refine Wc.assoc ?_
  refine Wc.region ?_
  have hcall := c41 hK hB hm (Nat.le_refl _) (M.length - 0) [] (List.replicate 6 false) 0 none 0 s1 rfl (Pre.nil hB) (fun b h => by cases h) ⟨_, none, _, none, ho1, hS1, Grew.nil, ⟨rfl, rfl⟩, by simp⟩
  refine Wk.c rfl rfl rfl (Ck.call rfl rfl) ((hcall).mono ?_)
  rintro r2 s2 ⟨best, most, hf, nv, bo, bv, bb, ho2, hS2, hgr, hbv, hdis⟩
  refine Wk.next ?_
  refine Wc.assoc ?_
  refine Wc.draw0 rfl ?_
  refine Wd.q rfl rfl rfl (Qk.fa rfl fd81_4) ?_
  refine Wd.r rfl rfl rfl (Rk.cell rfl sh29 (by first | assumption | repeat (first | exact gnew | exact gsetn gnew | assumption | exact gsetn (by assumption) | refine gpush ?_ | refine gset ?_ (by simp; omega) )) (by simp) rfl) rfl ?_
  refine Wd.q rfl rfl rfl (Qk.fa rfl fd81_5) ?_
  refine Wd.r rfl rfl rfl (Rk.cell rfl sh3 (by first | assumption | repeat (first | exact gnew | exact gsetn gnew | assumption | exact gsetn (by assumption) | refine gpush ?_ | refine gset ?_ (by simp; omega) )) (by simp) rfl) rfl ?_
  refine Wd.q rfl rfl rfl (Qk.assign rfl) ?_
  refine Wd.q rfl rfl rfl (Qk.assign rfl) ?_
  refine Wd.next ?_
  refine Wc.done'' (fun _ _ => rfl) rfl ?_
  obtain ⟨b, rfl, _⟩ := hf.all (fun i => i) ⟨Asg.id, by simp⟩
  obtain ⟨hb0, c, rfl, hc, hown⟩ := hbv
  obtain ⟨hA, hmost⟩ := hf.ok b rfl
  refine ⟨b, bv, c, by simp [pack]; exact hmost, hown, by omega, hA, ⟨hA.asg, fun x hx => ?_⟩, ho2⟩
  obtain ⟨b', e, hle⟩ := hf.all x ⟨hx, by simp⟩
  rw [← hmost]
  exact hle
end Go.Proofs.Ytfgnjndicidpkaa
