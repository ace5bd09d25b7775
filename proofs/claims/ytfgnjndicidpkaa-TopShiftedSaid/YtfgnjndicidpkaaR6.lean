/- One element is taken out of a slice of one's own. Of no one program. -/
import Derived.Test.YtfgnjndicidpkaaR2
import Derived.Test.YtfgnjndicidpkaaR5
namespace Go.Proofs.Ytfgnjndicidpkaa
open Go.Abs
section
variable {P : Program} {n : Nat} {k : Kn} {s : St}
theorem Hk.clear {x : Operand} {t : TypeId} {ts : List TypeId} {args : Array Operand} {tys : Array TypeId} {v r : Value} {s' : St} (ha : args.toList = [x]) (ht : tys.toList = t :: ts) (hx : kev k x = some v) (hr : aclear P s t v = some (r, s')) :
    Hk P n k s (.call { callee := .builtin .clear, args := args, argTypes := tys }) r s' := ⟨rfl, fun _ hf _ => by simp only [ahard, ha, ht, kev_ev hf hx, hr]⟩

/-- The element at i is taken out of a list. -/
def without (l : List Int) (i : Nat) : List Int := l.take i ++ l.drop (i + 1)
theorem without_len {l : List Int} {i : Nat} (h : i < l.length) : (without l i).length = l.length - 1 := by simp [without]; omega
theorem without_perm {l : List Int} {i : Nat} (h : i < l.length) : (l.getD i 0 :: without l i).Perm l := by
  have e : l = l.take i ++ l.getD i 0 :: l.drop (i + 1) := by
    conv => lhs; rw [← List.take_append_drop i l]
    rw [List.drop_eq_getElem_cons h]
    simp [List.getD, h]
  conv => rhs; rw [e]
  exact (List.perm_middle).symm

variable {t e : TypeId} {bytes b cap : Nat} {kd : IntKind} {cs : List Value} {md : Abs.Mode} {l : List Int}

theorem ab_some {y : Nat} {c : Int} (h : 0 ≤ c ∧ c ≤ y) : abound y (.int kd c) = some c.toNat := by simp only [abound]; rw [if_pos h]

theorem del_all (har : arrElem P t = none) (hs : sliceElem P t = some (e, 1, bytes)) {m : Nat} {i j : Int} {kd1 kd2 kd3 : IntKind} (h : 0 ≤ i ∧ i ≤ j ∧ j ≤ m ∧ m ≤ cap) :
    ∃ v, aslice P s t (.slice (some ⟨b, 0, none⟩) m cap) (some (.int kd1 i)) (some (.int kd2 j)) (some (.int kd3 m)) = some v := by
  have e0 : abound cap (.int kd3 m) = some m := by have := ab_some (kd := kd3) (y := cap) (c := m) (by omega); simpa using this
  have e1 : abound m (.int kd2 j) = some j.toNat := ab_some (by omega)
  have e2 : abound j.toNat (.int kd1 i) = some i.toNat := ab_some (by omega)
  have e3 : abounds m cap (some (.int kd1 i)) (some (.int kd2 j)) (some (.int kd3 m)) = some (i.toNat, j.toNat, m) := by
    delta abounds
    dsimp only
    rw [e0]
    dsimp only
    rw [e1]
    dsimp only
    rw [e2]
    dsimp only
    rw [if_pos (by omega)]
  simp only [aslice, har, hs, e3]
  simp

theorem del_head (har : arrElem P t = none) (hs : sliceElem P t = some (e, 1, bytes)) {m : Nat} {i : Int} (hg : s.get b = some ⟨cs, md⟩) (hmd : md = .rw ∨ (md = .grown 1 ∧ 0 < cap)) (h : 0 ≤ i ∧ i ≤ m ∧ m ≤ cap) :
    aslice P s t (.slice (some ⟨b, 0, none⟩) m cap) none (some (.int kd i)) none = some (.slice (some ⟨b, 0, none⟩) i.toNat cap) := by
  have e1 : abound cap (.int kd i) = some i.toNat := ab_some (by omega)
  have e3 : abounds m cap none (some (.int kd i)) none = some (0, i.toNat, cap) := by
    delta abounds
    dsimp only
    rw [e1]
    dsimp only
    rw [if_pos (by omega)]
  rcases hmd with rfl | ⟨rfl, h3⟩
  · simp only [aslice, har, hs, e3, exactCap, hg]
    simp
  · simp only [aslice, har, hs, e3, exactCap, hg]
    simp
    omega

theorem del_tail (har : arrElem P t = none) (hs : sliceElem P t = some (e, 1, bytes)) {m : Nat} {i : Int} (hg : s.get b = some ⟨cs, md⟩) (hmd : md = .rw ∨ (md = .grown 1 ∧ 0 < cap)) (h : 0 ≤ i ∧ i ≤ m ∧ m ≤ cap) :
    ∃ a cp, aslice P s t (.slice (some ⟨b, 0, none⟩) m cap) (some (.int kd i)) none none = some (.slice (some a) (m - i.toNat) cp) ∧ (i < m → a = ⟨b, i.toNat, none⟩) := by
  have e1 : abound m (.int kd i) = some i.toNat := ab_some (by omega)
  have e3 : abounds m cap (some (.int kd i)) none none = some (i.toNat, m, cap) := by
    delta abounds
    dsimp only
    rw [e1]
    dsimp only
    rw [if_pos (by omega)]
  rcases hmd with rfl | ⟨rfl, h3⟩
  · simp only [aslice, har, hs, e3, exactCap, hg]
    simp
    omega
  · simp only [aslice, har, hs, e3, exactCap, hg]
    by_cases hc : cap = i.toNat
    · subst hc
      refine ⟨⟨b, i.toNat, some 1⟩, 0, ?_, fun hlt => by omega⟩
      have : m - i.toNat = 0 := by omega
      simp [this]
    · refine ⟨⟨b, i.toNat, none⟩, cap - i.toNat, ?_, fun _ => rfl⟩
      simp [hc]

theorem del_app {st xt : TypeId} (ha : ApOk P st xt e 1 bytes) (hg : s.get b = some ⟨cs, md⟩) (hmd : md = .rw ∨ (md = .grown 1 ∧ 0 < cap)) (hcs : cs.length = cap) (hl : l.length ≤ cap) (hcap : l.length ≤ 2 ^ 19) (ht : cs.take l.length = ic l) {i cp : Nat} {a : Addr} (hi : i < l.length) (hsrc : i + 1 < l.length → a = ⟨b, i + 1, none⟩) :
    ∃ cs2, aappend P s st xt (.slice (some ⟨b, 0, none⟩) i cap) (.slice (some a) (l.length - (i + 1)) cp) = some (.slice (some ⟨b, 0, none⟩) (l.length - 1) cap, s.set b ⟨cs2, md⟩) ∧ cs2.length = cap ∧ cs2.take (l.length - 1) = ic (without l i) := by
  have hlt := St.get_lt hg
  have htk : cs.take i = ic (l.take i) := by
    have := congrArg (List.take i) ht
    rw [List.take_take, Nat.min_eq_left (by omega)] at this
    rw [this]; simp [ic]
  by_cases h0 : i + 1 = l.length
  · have hz : l.length - (i + 1) = 0 := by omega
    have src : asource P s e 1 (isIntType P xt) (.slice (some a) (l.length - (i + 1)) cp) = some ([], 0) := by
      rw [hz]
      simp only [asource, ha.noInt]
      obtain ⟨x, y, z⟩ := a
      simp
    have hcond : bytes ≤ 2 ^ 10 ∧ 0 < bytes ∧ 0 < 1 ∧ ([] : List Value).length = 0 * 1 ∧ (zeroOf P e).map (·.cells.size) = some 1 ∧ (P.underlying xt).isSome ∧ ([] : List Value).all scalar = true := ⟨ha.small.1, ha.small.2.1, ha.small.2.2, by simp, ha.zero, ha.kind, rfl⟩
    refine ⟨cs, ?_, hcs, ?_⟩
    · simp only [aappend, ha.elem, src]
      rw [if_neg (not_not_intro hcond), if_neg (by omega)]
      have hset : s.set b ⟨cs, md⟩ = s := by
        unfold St.set
        unfold St.get at hg
        rw [if_pos hlt] at hg ⊢
        have : s.rev.set (s.size - 1 - b) ⟨cs, md⟩ = s.rev := by
          obtain ⟨h1, h2⟩ := List.getElem?_eq_some_iff.1 hg
          rw [← h2, List.set_getElem_self]
        rw [this]
      rw [hset]
      simp
      omega
    · rw [show l.length - 1 = i by omega, htk, without, List.drop_eq_nil_of_le (by omega), List.append_nil]
  · have hsl : i + 1 < l.length := by omega
    have ha' := hsrc hsl
    subst ha'
    have hdead : md ≠ .dead := by rcases hmd with rfl | ⟨rfl, _⟩ <;> simp
    have hw : md.writable = true := by rcases hmd with rfl | ⟨rfl, _⟩ <;> rfl
    have hdr : (cs.drop (i + 1)).take (l.length - (i + 1)) = ic (l.drop (i + 1)) := by
      have := congrArg (List.drop (i + 1)) ht
      rw [List.drop_take] at this
      rw [this]; simp [ic]
    have hcell : s.cells b (i + 1) ((l.length - (i + 1)) * 1) = some (ic (l.drop (i + 1))) := by
      simp only [St.cells, hg, Nat.mul_one]
      rw [if_neg hdead, if_pos (by omega), hdr]
    have src : asource P s e 1 (isIntType P xt) (.slice (some ⟨b, i + 1, none⟩) (l.length - (i + 1)) cp) = some (ic (l.drop (i + 1)), l.length - (i + 1)) := by
      simp only [asource, ha.noInt]
      rw [if_neg (by simp), if_neg (by omega), hcell]
      rfl
    have hcond : bytes ≤ 2 ^ 10 ∧ 0 < bytes ∧ 0 < 1 ∧ (ic (l.drop (i + 1))).length = (l.length - (i + 1)) * 1 ∧ (zeroOf P e).map (·.cells.size) = some 1 ∧ (P.underlying xt).isSome ∧ (ic (l.drop (i + 1))).all scalar = true := ⟨ha.small.1, ha.small.2.1, ha.small.2.2, by rw [ic_len]; simp, ha.zero, ha.kind, ic_scalar _⟩
    refine ⟨splice cs i (ic (l.drop (i + 1))), ?_, ?_, ?_⟩
    · simp only [aappend, ha.elem, src]
      rw [if_neg (not_not_intro hcond)]
      rw [if_neg (by omega), if_neg (by omega), if_neg (by simp), if_neg (by simp), if_pos (by omega)]
      simp only [St.setCells, hg, Nat.mul_one, Nat.zero_add]
      rw [if_pos (by
        have h1 : i + (ic (l.drop (i + 1))).length ≤ cs.length := by rw [ic_len]; simp; omega
        simp only [hw, ic_scalar, Bool.true_and, Bool.and_true, decide_eq_true_eq]
        exact h1)]
      simp only [Option.map_some]
      rw [show i + (l.length - (i + 1)) = l.length - 1 by omega]
    · rw [splice_eq (by rw [ic_len]; simp; omega)]; simp [ic_len]; omega
    · rw [splice_eq (by rw [ic_len]; simp; omega), htk]
      rw [show ic (l.take i) ++ ic (l.drop (i + 1)) = ic (without l i) by simp [ic, without]]
      have : (ic (without l i)).length = l.length - 1 := by rw [ic_len, without_len hi]
      rw [← this, List.take_left]

theorem del_last (har : arrElem P t = none) (hs : sliceElem P t = some (e, 1, bytes)) {m : Nat} {i j : Int} {kd1 kd2 : IntKind} (hg : s.get b = some ⟨cs, md⟩) (hmd : md = .rw ∨ (md = .grown 1 ∧ 0 < cap)) (h : 0 ≤ i ∧ i < j ∧ j ≤ cap ∧ m ≤ cap) :
    ∃ cp, aslice P s t (.slice (some ⟨b, 0, none⟩) m cap) (some (.int kd1 i)) (some (.int kd2 j)) none = some (.slice (some ⟨b, i.toNat, none⟩) (j.toNat - i.toNat) cp) := by
  have e1 : abound cap (.int kd2 j) = some j.toNat := ab_some (by omega)
  have e2 : abound j.toNat (.int kd1 i) = some i.toNat := ab_some (by omega)
  have e3 : abounds m cap (some (.int kd1 i)) (some (.int kd2 j)) none = some (i.toNat, j.toNat, cap) := by
    delta abounds
    dsimp only
    rw [e1]
    dsimp only
    rw [e2]
    dsimp only
    rw [if_pos (by omega)]
  have hne : ¬ cap = i.toNat := by omega
  rcases hmd with rfl | ⟨rfl, h3⟩
  · simp only [aslice, har, hs, e3, exactCap, hg]
    simp [hne]
  · simp only [aslice, har, hs, e3, exactCap, hg]
    simp [hne]

theorem del_clear (hs : sliceElem P t = some (e, 1, bytes)) (hz : zeroOf P e = some (.int .i64 0)) {i cp : Nat} (hg : s.get b = some ⟨cs, md⟩) (hmd : md = .rw ∨ (md = .grown 1 ∧ 0 < cap)) (hi : i < cs.length) :
    aclear P s t (.slice (some ⟨b, i, none⟩) 1 cp) = some (undef, s.set b ⟨cs.set i (.int .i64 0), md⟩) := by
  have hw : md.writable = true := by rcases hmd with rfl | ⟨rfl, _⟩ <;> rfl
  have e1 : (Value.int .i64 0).cells = #[.int .i64 0] := rfl
  simp only [aclear, hs, hz, e1]
  rw [if_pos ⟨rfl, by decide⟩, if_neg (by decide)]
  simp only [copies, List.append_nil, St.setCells, hg]
  rw [if_pos (by simp [hw, scalar]; omega)]
  rfl
end
end Go.Proofs.Ytfgnjndicidpkaa
