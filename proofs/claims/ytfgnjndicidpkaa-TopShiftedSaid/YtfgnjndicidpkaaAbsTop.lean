/- From the evaluator's answer to the machine's: the memory that comes in is mirrored, cell by cell, to be read alone. -/
import Derived.Test.YtfgnjndicidpkaaAbsCalls
import Derived.ProofKit
import Derived.Shelf.Spec.BitsCarry
import Derived.Below
import Derived.ChangeOld
import Derived.OpenShut
import Derived.Deep.Slices
namespace Go.Abs
open Go.RowKit

/-! ### A call from above -/

theorem calls_of_inv {P : Program} (hF : Fit P) {K : Known} (hK : KnownOk P K) {n k : Nat} {args args' : List Value} {s s' : St} {v : Value} {f : FMap} {g : LMap} {w : World} (h : inv P K n (.func (.func k) #[] #[]) args s = some (v, s')) (hv : splain v = true) (hbody : ∃ fn, P.funcs[k]? = some fn ∧ fn.body.isSome = true)
    (hargs : VsRel f g args args') (hi : Inj f g s w) (hro : ∀ b p k, f b = some p → s.get b = some k → k.mode.writable = false) (hg : ∀ l, g l = none) :
    Calls P k args'.toArray w fun e w' => e = .returned v ∧ Below w.heap.size w w' := by
  have h0 := inv_sim hF hK n _ _ _ _ _ h f g w (.func (.func k) #[] #[]) args' (.func rfl rfl (fun i => by simpa [List.getD] using VRel.undef' _) (fun i => by simpa [List.getD] using VRel.undef' _)) hargs hi
  obtain ⟨_, h1⟩ : _ ∧ _ := by
    rcases h0 with h0 | ⟨⟨fn, x1, x2⟩, _⟩
    · exact h0
    · obtain ⟨fn', y1, y2⟩ := hbody
      rw [x1] at y1; cases y1
      rw [x2] at y2; cases y2
  have h2 := callsIn_wide.1 h1
  simp only [Array.append_empty, Array.empty_append] at h2
  refine h2.mono fun e w' he => ?_
  obtain ⟨v', rfl, f', g', kp, _, hr⟩ := he
  refine ⟨by rw [splain_rel hr hv], ⟨kp.calm.1, kp.calm.2.1, kp.calm.2.2, kp.heap, fun c hc => kp.keepC c hc (fun b p kb a1 a2 a3 => ?_) (fun l => by rw [hg l]; intro e; cases e)⟩⟩
  rw [hro b p kb a1 a2] at a3; cases a3

/-- What runs in an empty store is known. -/
theorem known_of_inv {P : Program} (hF : Fit P) {n k : Nat} {v : Value} {s' : St} (h : inv P (fun _ _ => none) n (.func (.func k) #[] #[]) [] ⟨[], []⟩ = some (v, s')) (hv : splain v = true) (w : World) :
    Invokes P (.func (.func k) #[] #[]) [] w fun v' w' => v' = v ∧ Grew w w' := by
  have hi : Inj (fun _ => none) (fun _ => none) ⟨[], []⟩ w := ⟨(fun _ _ h => by cases h), (fun _ _ _ h => by cases h), (fun _ _ _ _ _ _ _ h => by cases h), (fun _ _ h => by cases h), (fun _ _ _ h => by cases h)⟩
  have h0 := inv_sim hF knownOk_none n _ _ _ _ _ h _ _ w (.func (.func k) #[] #[]) [] (.func rfl rfl (fun i => by simpa [List.getD] using VRel.undef' _) (fun i => by simpa [List.getD] using VRel.undef' _)) .nil hi
  refine h0.mono fun v' w' hw => ?_
  obtain ⟨f', g', kp, _, hr⟩ := hw
  exact ⟨splain_rel hr hv, kp.calm, kp.heap, fun c hc => kp.keepC c hc (fun _ _ _ h => by cases h) (fun _ h => by cases h)⟩

/-- One call without arguments is known. -/
def knows (k : FuncId) (v : Value) (K : Known) : Known := fun j args => if j = k ∧ args = [] then some v else K j args

theorem KnownOk.knows {P : Program} (hF : Fit P) {K : Known} (hK : KnownOk P K) {n k : Nat} {v : Value} {s' : St} (h : inv P (fun _ _ => none) n (.func (.func k) #[] #[]) [] ⟨[], []⟩ = some (v, s')) (hv : splain v = true) : KnownOk P (knows k v K) := by
  intro j args u hu
  unfold Abs.knows at hu
  split at hu
  · rename_i hj
    obtain ⟨rfl, rfl⟩ := hj
    cases hu
    exact ⟨fun _ _ => .plain hv, (fun a ha => by cases ha), known_of_inv hF h hv⟩
  · exact hK j args u hu

/-- Carries of sums and differences: two functions that the machine has no body for. -/
def carries (ka kb : FuncId) (K : Known) : Known := fun j args =>
  match args with
  | [.int .u64 x, .int .u64 y, .int .u64 c] =>
    if 0 ≤ x ∧ 0 ≤ y ∧ 0 ≤ c ∧ c ≤ 1 then
      if j = ka then some (.tuple #[.int .u64 ((x + y + c) % 18446744073709551616), .int .u64 ((x + y + c) / 18446744073709551616)])
      else if j = kb ∧ x < 18446744073709551616 ∧ y + c ≤ x then some (.tuple #[.int .u64 (x - y - c), .int .u64 0])
      else K j args
    else K j args
  | _ => K j args

theorem tuple2_rel {f : FMap} {g : LMap} {a b : Value} (ha : splain a = true) (hb : splain b = true) : VRel f g (.tuple #[a, b]) (.tuple #[a, b]) := .tuple rfl fun i => by
  match i with
  | 0 => exact .plain ha
  | 1 => exact .plain hb
  | n + 2 => exact VRel.undef' _

theorem KnownOk.carries {P : Program} {ka kb : FuncId} {fa fb : Func} {K : Known} (hK : KnownOk P K) (ha : P.funcs[ka]? = some fa) (ha1 : (fa.name == "runtime.NumGoroutine") = false) (ha2 : fa.body.isNone = true) (ha3 : Extern.findNext fa = none) (ha4 : Extern.find fa = some add64Entry)
    (hb : P.funcs[kb]? = some fb) (hb1 : (fb.name == "runtime.NumGoroutine") = false) (hb2 : fb.body.isNone = true) (hb3 : Extern.findNext fb = none) (hb4 : Extern.find fb = some Go.Proofs.sub64Entry) : KnownOk P (carries ka kb K) := by
  intro j args u hu
  unfold Abs.carries at hu
  split at hu
  · rename_i x y c
    split at hu
    · rename_i hc
      split at hu
      · rename_i hj
        subst hj
        cases hu
        refine ⟨fun _ _ => tuple2_rel rfl rfl, fun a h => by simp at h; rcases h with rfl | rfl | rfl <;> rfl, fun w => .inr ⟨⟨fa, ha, by simpa using ha2⟩, fun a h => by simp at h; rcases h with rfl | rfl | rfl <;> rfl, _, w, ?_, rfl, ⟨rfl, rfl, rfl⟩, Nat.le_refl _, fun _ _ => rfl⟩⟩
        rw [show ((#[] : Array Value) ++ [Value.int .u64 x, .int .u64 y, .int .u64 c].toArray) ++ #[] = #[.int .u64 x, .int .u64 y, .int .u64 c] from rfl]
        rw [run_callFunc_extern ha ha1 ha2 ha3 ha4, run_add64 x y c hc.1 hc.2.1 hc.2.2.1 hc.2.2.2]
        rfl
      · split at hu
        · rename_i hj
          obtain ⟨rfl, h3, h4⟩ := hj
          cases hu
          refine ⟨fun _ _ => tuple2_rel rfl rfl, fun a h => by simp at h; rcases h with rfl | rfl | rfl <;> rfl, fun w => .inr ⟨⟨fb, hb, by simpa using hb2⟩, fun a h => by simp at h; rcases h with rfl | rfl | rfl <;> rfl, _, w, ?_, rfl, ⟨rfl, rfl, rfl⟩, Nat.le_refl _, fun _ _ => rfl⟩⟩
          rw [show ((#[] : Array Value) ++ [Value.int .u64 x, .int .u64 y, .int .u64 c].toArray) ++ #[] = #[.int .u64 x, .int .u64 y, .int .u64 c] from rfl]
          obtain ⟨X, rfl⟩ := Int.eq_ofNat_of_zero_le hc.1
          obtain ⟨Y, rfl⟩ := Int.eq_ofNat_of_zero_le hc.2.1
          obtain ⟨C, rfl⟩ := Int.eq_ofNat_of_zero_le hc.2.2.1
          rw [run_callFunc_extern hb hb1 hb2 hb3 hb4, Go.Proofs.run_sub64 X Y C (by omega)]
          simp only [Result.andThen]
          have e1 : (X + 18446744073709551616 - Y - C) % 18446744073709551616 = X - Y - C := by omega
          have e2 : ¬ (X < Y + C) := by omega
          have e3 : ((X - Y - C : Nat) : Int) = (X : Int) - Y - C := by omega
          rw [e1, if_neg e2, e3]
          rfl
        · exact hK j _ u hu
    · exact hK j _ u hu
  · exact hK j _ u hu

/-! ### The mirror of a heap -/

/-- A value of a world with so many blocks: what the evaluator reads of it. -/
def mir (N : Nat) : Value → Value
  | .bool b => .bool b
  | .int k i => .int k i
  | .slice none a b => .slice none a b
  | .slice (some ⟨b, off, none⟩) len cap => if cap = 0 then (if len = 0 then .slice (some ⟨0, 0, some 2⟩) 0 0 else undef) else if b < N then .slice (some ⟨b, off, none⟩) len cap else undef
  | .slice (some _) len cap => if cap = 0 ∧ len = 0 then .slice (some ⟨0, 0, some 2⟩) 0 0 else undef
  | _ => undef

def mirTop (N : Nat) : Value → Value
  | .agg cs => .agg (cs.map (mir N))
  | v => mir N v

def mirObj (N : Nat) : Obj → Blk
  | .cells cs _ _ => ⟨cs.toList.map (mir N), .ro⟩
  | _ => ⟨[], .dead⟩

def mirror (w : World) : St := { rev := (w.heap.toList.map (mirObj w.heap.size)).reverse, loops := [] }
def mirMap (w : World) : FMap := fun b => if b < w.heap.size then some ⟨b, 0, false, 0, 0⟩ else none
def noLoops : LMap := fun _ => none

section
variable {w : World}

theorem size_mirror (w : World) : (mirror w).size = w.heap.size := by simp [mirror, St.size]

theorem get_mirror {b : Nat} {o : Obj} (h : w.heap[b]? = some o) : (mirror w).get b = some (mirObj w.heap.size o) := by
  obtain ⟨hlt, heq⟩ := Array.getElem?_eq_some_iff.1 h
  have : (mirror w).size = w.heap.size := size_mirror w
  unfold St.get
  rw [this, if_pos hlt]
  have h1 : w.heap.size - 1 - b < w.heap.size := by omega
  simp only [mirror]
  rw [List.getElem?_reverse (by simp; omega)]
  simp only [List.length_map, Array.length_toList, List.getElem?_map, Array.getElem?_toList]
  rw [show w.heap.size - 1 - (w.heap.size - 1 - b) = b by omega, h]
  rfl

theorem mir_rel (w : World) (v : Value) : VRel (mirMap w) noLoops (mir w.heap.size v) v := by
  unfold mir
  split
  · exact .plain rfl
  · exact .plain rfl
  · exact .plain rfl
  · rename_i b off len cap
    split
    · rename_i hc
      subst hc
      split
      · rename_i hl; subst hl; exact .slice0
      · exact VRel.undef' _
    · split
      · rename_i hb
        have := VRel.slice (f := mirMap w) (g := noLoops) (b := b) (off := off) (len := len) (cap := cap) (cap' := cap) (p := ⟨b, 0, false, 0, 0⟩) (by simp [mirMap, hb]) (fun _ => rfl) (Nat.le_refl _) (fun e => by cases e)
        simpa using this
      · exact VRel.undef' _
  · split
    · rename_i hc
      obtain ⟨rfl, rfl⟩ := hc
      exact .slice0
    · exact VRel.undef' _
  · exact VRel.undef' _

theorem mirs_rel (w : World) (l : List Value) : VsRel (mirMap w) noLoops (l.map (mir w.heap.size)) l := by
  induction l with
  | nil => exact .nil
  | cons v l ih => exact .cons (mir_rel w v) ih

theorem mirTop_rel (w : World) (v : Value) : VRel (mirMap w) noLoops (mirTop w.heap.size v) v := by
  unfold mirTop
  split
  · rename_i cs
    refine .agg (by simp) fun i => ?_
    have := (mirs_rel w cs.toList).2 i
    simpa using this
  · exact mir_rel w v

theorem mirror_ro {b : Nat} {k : Blk} (h : (mirror w).get b = some k) : k.mode.writable = false := by
  have hlt := St.get_lt h
  rw [size_mirror] at hlt
  rw [get_mirror (Array.getElem?_eq_getElem hlt)] at h
  cases h
  unfold mirObj
  split <;> rfl

theorem Inj.mirror (w : World) : Inj (mirMap w) noLoops (mirror w) w where
  dom := fun b p h => by
    unfold mirMap at h
    split at h
    · rename_i hb; rw [size_mirror]; exact hb
    · cases h
  blk := fun b p k h hk hd => by
    unfold mirMap at h
    split at h
    · rename_i hb
      cases h
      rw [get_mirror (Array.getElem?_eq_getElem hb)] at hk
      cases hk
      unfold mirObj at hd ⊢
      split at hd
      · rename_i cs e fz hc
        refine ⟨cs, e, fz, by rw [Array.getElem?_eq_getElem hb, hc], fun e => (by cases e), fun e => (by cases e), fun n e => (by cases e), fun i hi => ?_⟩
        simp only [List.length_map, Array.length_toList] at hi ⊢
        refine ⟨cs[i], by simp [hi], ?_⟩
        have := mir_rel w cs[i]
        simpa [List.getD, hi] using this
      · exact (hd rfl).elim
    · cases h
  sep := fun b c p q k j _ _ _ hk _ hw => by rw [mirror_ro hk] at hw; cases hw
  loop := fun l m h => by cases h
  lsep := fun l l' m h => by cases h

/-- What can be read in the mirror, of a type. -/
inductive Rd (P : Program) (s : St) : TypeId → List Value → Prop where
  | bool {t : TypeId} {b : Bool} : P.underlying t = some .bool → Rd P s t [.bool b]
  | int {t : TypeId} {k : IntKind} {i : Int} : P.underlying t = some (.int k) → (Lit.int k i).wf = true → Rd P s t [.int k i]
  | nil {t e : TypeId} : P.underlying t = some (.slice e) → Rd P s t [.slice none 0 0]
  | empty {t e : TypeId} : P.underlying t = some (.slice e) → Rd P s t [.slice (some ⟨0, 0, some 2⟩) 0 0]
  | slice {t e : TypeId} {b off len cap : Nat} {k : Blk} {row : Nat → List Value} : P.underlying t = some (.slice e) → 0 < cap → len ≤ cap → cap ≤ maxLen → s.get b = some k → k.mode = .ro →
      (∀ i, i < cap → s.cells b (off + i * P.cellsOf e) (P.cellsOf e) = some (row i)) → (∀ i, i < cap → Rd P s e (row i)) → Rd P s t [.slice (some ⟨b, off, none⟩) len cap]
  | struct {t : TypeId} {fs : Array Field} {cs : List Value} : P.underlying t = some (.struct fs) → cs.length = P.cellsOf t → (∀ (i : Nat) (f : Field), fs[i]? = some f → Rd P s f.type ((cs.drop f.offset).take (P.cellsOf f.type))) → Rd P s t cs
  | array {t e : TypeId} {n : Nat} {cs : List Value} : P.underlying t = some (.array n e) → cs.length = P.cellsOf t → (∀ i, i < n → Rd P s e ((cs.drop (i * P.cellsOf e)).take (P.cellsOf e))) → Rd P s t cs

/-- A type of bools, integers, structs, arrays and slices. -/
def plainTy (P : Program) : Nat → TypeId → Bool
  | 0, _ => false
  | n + 1, t =>
    match P.underlying t with
    | some .bool => true
    | some (.int _) => true
    | some (.slice e) => plainTy P n e && decide (0 < P.cellsOf e)
    | some (.struct fs) => fs.toList.all fun f => plainTy P n f.type
    | some (.array _ e) => plainTy P n e
    | _ => false

theorem cells_mirror {b off n : Nat} {sp : Option Nat} {base : Nat} {cs : List Value} (h : w.cells? base ⟨b, off, sp⟩ n = some cs) (hn : 0 < n) :
    sp = none ∧ b < w.heap.size ∧ (∃ k, (mirror w).get b = some k ∧ k.mode = .ro) ∧ (mirror w).cells b off n = some (cs.map (mir w.heap.size)) := by
  obtain ⟨_, hl, hc⟩ := World.cells?_some h
  have h0 := hc 0 (by omega)
  have hlt := World.cells?_block h hn
  have hsp : sp = none := by
    have e : (⟨b, off, sp⟩ : Addr).add 0 = ⟨b, off, sp⟩ := by simp [Addr.add]
    rw [e, List.getElem?_eq_getElem (by omega)] at h0
    exact World.cell?_spot h0
  subst hsp
  have hobj : ∃ xs e fz, w.heap[b]? = some (.cells xs e fz) := by
    have e : (⟨b, off, none⟩ : Addr).add 0 = ⟨b, off, none⟩ := by simp [Addr.add]
    rw [e, List.getElem?_eq_getElem (by omega)] at h0
    unfold World.cell? at h0
    split at h0
    · rename_i xs e fz hx; exact ⟨xs, e, fz, hx⟩
    · cases h0
  obtain ⟨xs, e, fz, hx⟩ := hobj
  have hg := get_mirror hx
  refine ⟨rfl, hlt, ⟨_, hg, rfl⟩, ?_⟩
  have hcell : ∀ i, i < n → xs[off + i]? = cs[i]? := fun i hi => by
    have := hc i hi
    rw [addr_add] at this
    unfold World.cell? at this
    rw [hx] at this
    simpa using this
  have hlast := hcell (n - 1) (by omega)
  rw [List.getElem?_eq_getElem (by omega)] at hlast
  have hsz := (Array.getElem?_eq_some_iff.1 hlast).1
  unfold St.cells
  rw [hg]
  simp only [mirObj]
  have hle : off + n ≤ (List.map (mir w.heap.size) xs.toList).length := by simp; omega
  simp only [hle, reduceCtorEq, if_true, if_false]
  congr 1
  apply List.ext_getElem?
  intro i
  by_cases hi : i < n
  · rw [List.getElem?_take_of_lt hi, List.getElem?_drop, List.getElem?_map, List.getElem?_map, Array.getElem?_toList, hcell i hi]
  · rw [List.getElem?_eq_none (by simp; omega), List.getElem?_eq_none (by simp; omega)]

theorem trod_rd {P : Program} {H : Type} {enc : TypeId × Value → H} : ∀ (m n : Nat) (t : TypeId) (cs : List Value) (x : DataW H × List MemPlace), plainTy P m t = true → DataW.trod enc P w 0 (fun _ => true) true n t cs = some x → Rd P (mirror w) t (cs.map (mir w.heap.size))
  | 0, _, _, _, _, h, _ => by cases h
  | m + 1, n, t, cs, x, h, ht => by
    cases n with
    | zero => simp [DataW.trod] at ht
    | succ n =>
      simp only [plainTy] at h
      split at h
      · rename_i hu
        unfold DataW.trod at ht
        rw [hu] at ht
        split at ht <;> simp_all
        exact .bool hu
      · rename_i k hu
        have hi : ∃ i, cs = [.int k i] ∧ (Lit.int k i).wf = true := by
          unfold DataW.trod at ht
          rw [hu] at ht
          split at ht
          all_goals first
            | (rename_i k1 k2 i h1
               obtain rfl : k = k1 := by simpa using h1
               split at ht
               · rename_i hc
                 obtain ⟨rfl, hw⟩ := hc
                 exact ⟨_, rfl, hw⟩
               · cases ht)
            | simp_all
        obtain ⟨i, rfl, hw⟩ := hi
        exact .int hu hw
      · rename_i e hu
        simp only [Bool.and_eq_true, decide_eq_true_eq] at h
        rcases Deep.open_slice hu ht with ⟨rfl, _⟩ | ⟨a, len, cap, m', n', D, Pl, rfl, _, hl, hm, hmm, _, hel⟩
        · exact .nil hu
        · have hmm' : cap = m' := hmm.symm
          subst hmm'
          obtain ⟨b, off, sp⟩ := a
          by_cases hc : cap = 0
          · have hl0 : len = 0 := by omega
            subst hc hl0
            cases sp with
            | none => exact .empty hu
            | some sp => exact .empty hu
          · obtain ⟨row, hrow⟩ := Deep.choose_lt (α := List Value) (p := fun i cs' => w.cells? 0 ((⟨b, off, sp⟩ : Addr).add (i * P.cellsOf e)) (P.cellsOf e) = some cs' ∧ DataW.trod enc P w 0 (fun _ => true) true n' e cs' = some (D i, Pl i)) (n := cap) (fun i hi => hel i (by simpa using hi))
            have h0 := (hrow 0 (by omega)).1
            have e0 : (⟨b, off, sp⟩ : Addr).add (0 * P.cellsOf e) = ⟨b, off, sp⟩ := by simp [Addr.add]
            rw [e0] at h0
            obtain ⟨rfl, hblt, ⟨k, hk, hkr⟩, _⟩ := cells_mirror h0 h.2
            have : [Value.slice (some ⟨b, off, none⟩) len cap].map (mir w.heap.size) = [Value.slice (some ⟨b, off, none⟩) len cap] := by
              simp only [List.map_cons, List.map_nil, mir, if_neg hc, if_pos hblt]
            rw [this]
            refine .slice (row := fun i => (row i).map (mir w.heap.size)) hu (by omega) hl hm hk hkr (fun i hi => ?_) (fun i hi => trod_rd m n' e _ _ h.1 (hrow i hi).2)
            have := (hrow i hi).1
            rw [addr_add] at this
            exact (cells_mirror this h.2).2.2.2
      · rename_i fs hu
        obtain ⟨xs, n', _, _, hl, hlen, hf⟩ := DataW.trod_struct hu ht
        refine .struct hu (by simpa using hl) fun i f hfi => ?_
        rw [List.all_eq_true] at h
        have hp := h f (by rw [Array.mem_toList_iff]; exact Array.mem_of_getElem? hfi)
        have hi : i < xs.length := by rw [hlen]; exact (Array.getElem?_eq_some_iff.1 hfi).1
        have := hf i f hfi
        rw [List.getElem?_eq_getElem hi] at this
        have := trod_rd m n' f.type _ _ hp this
        simpa [List.map_take, List.map_drop] using this
      · rename_i k e hu
        obtain ⟨xs, n', _, _, hl, hlen, hf⟩ := DataW.trod_array hu ht
        refine .array hu (by simpa using hl) fun i hi => ?_
        have := hf i hi
        rw [List.getElem?_eq_getElem (by omega)] at this
        have := trod_rd m n' e _ _ h this
        simpa [List.map_take, List.map_drop] using this
      · cases h

end
end Go.Abs
