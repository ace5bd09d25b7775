/- The operations that leave the store alone: what the evaluator says the machine does. -/
import Derived.Test.YtfgnjndicidpkaaAbsHeap
namespace Go.Abs

section
variable {P : Program} {f : FMap} {g : LMap} {s : St} {w : World} {fr : Fr} {ρ : Operand → Value}

theorem run_underlying_some {t : TypeId} {d : TypeDesc} (h : P.underlying t = some d) (w : World) : (underlying t).run P w = .ok d w := by
  simp [underlying, h]

theorem run_info_some {t : TypeId} {i : TypeInfo} (h : P.info? t = some i) (w : World) : (typeInfo t).run P w = .ok i w := by
  simp [typeInfo, h]

theorem run_sizeOf_some {t : TypeId} {i : TypeInfo} (h : P.info? t = some i) (w : World) : (sizeOf t).run P w = .ok i.size w := by
  simp [sizeOf, run_info_some h]

theorem zeroOf_some {t : TypeId} {z : Value} (h : zeroOf P t = some z) : ∃ i, P.info? t = some i ∧ i.zero = some z ∧ plain z = true := by
  unfold zeroOf at h
  split at h
  · rename_i i hi
    split at h
    · rename_i z' hz
      split at h
      · rename_i hp
        simp only [Option.some.injEq] at h
        subst h
        exact ⟨i, hi, hz, hp⟩
      · cases h
    · cases h
  · cases h

theorem run_zeroValue_some {t : TypeId} {z : Value} (h : zeroOf P t = some z) (w : World) : (zeroValue t).run P w = .ok z w := by
  obtain ⟨i, hi, hz, _⟩ := zeroOf_some h
  simp [zeroValue, run_info_some hi, hz]

theorem zero_rel {t : TypeId} {z : Value} (h : zeroOf P t = some z) : VRel f g z z := by
  obtain ⟨i, _, _, hp⟩ := zeroOf_some h
  exact rel_of_plain hp

theorem plain_isVal {z : Value} (h : plain z = true) : isVal z = true := by
  cases z <;> simp [plain, splain, isVal] at *

theorem zero_cells {t : TypeId} {z : Value} (h : zeroOf P t = some z) : VsRel f g z.cells.toList z.cells.toList := by
  obtain ⟨i, _, _, hp⟩ := zeroOf_some h
  exact (rel_of_plain hp).cells (plain_isVal hp)

/-- Pairs of a place and a value. -/
inductive PsRel (f : FMap) (g : LMap) : List (Nat × Value) → List (Nat × Value) → Prop where
  | nil : PsRel f g [] []
  | cons {i : Nat} {v v' : Value} {l l' : List (Nat × Value)} : VRel f g v v' → PsRel f g l l' → PsRel f g ((i, v) :: l) ((i, v') :: l')

def aggOf : TypeDesc → Bool
  | .struct _ | .array _ _ => true
  | _ => false

theorem run_isAgg {t : TypeId} {d : TypeDesc} (h : P.underlying t = some d) (w : World) : (isAgg t).run P w = .ok (aggOf d) w := by
  simp only [isAgg, Sem.run_bind, run_underlying_some h, Result.andThen_ok]
  cases d <;> rfl

/-! ### Lists that are gone through in the monad -/

theorem run_mapM_list {α β : Type} (k : α → Sem β) (y : α → β) (w : World) : ∀ (l : List α), (∀ x ∈ l, (k x).run P w = .ok (y x) w) → (l.mapM k).run P w = .ok (l.map y) w
  | [], _ => by simp
  | x :: l, h => by
    simp only [List.mapM_cons, Sem.run_bind, h x (by simp), Result.andThen_ok, run_mapM_list k y w l (fun z hz => h z (by simp [hz])), Sem.run_pure, List.map_cons]

theorem run_mapM_array {α β : Type} (k : α → Sem β) (y : α → β) (w : World) (l : Array α) (h : ∀ x ∈ l.toList, (k x).run P w = .ok (y x) w) : (l.mapM k).run P w = .ok (l.map y) w := by
  rw [Array.mapM_eq_mapM_toList]
  simp only [Sem.run_map, run_mapM_list k y w l.toList h, Result.andThen_ok]
  rw [← Array.toList_map, Array.toArray_toList]

theorem foldl_splice : ∀ (vs : List Value) (off k : Nat) (cs : Array Value),
    (vs.zipIdx k).foldl (fun cs (x : Value × Nat) => cs.setIfInBounds (off + x.2) x.1) cs = (splice cs.toList (off + k) vs).toArray
  | [], off, k, cs => by simp [splice]
  | v :: vs, off, k, cs => by
    simp only [List.zipIdx_cons, List.foldl_cons, splice]
    rw [foldl_splice vs off (k + 1)]
    simp [Nat.add_assoc]

theorem fill_rel (place place' : Nat → Option (Nat × Nat)) (hp : ∀ i x, place i = some x → place' i = some x) :
    ∀ (parts parts' : List (Nat × Value)) (cells cs : List Value) (cells' : Array Value), afill place cells parts = some cs → VsRel f g cells cells'.toList →
      PsRel f g parts parts' →
      ∃ cs', Instr.fill place' cells' parts' = some cs' ∧ VsRel f g cs cs'.toList
  | [], parts', cells, cs, cells', h, hc, hps => by
    cases hps
    simp only [afill, Option.some.injEq] at h
    subst h
    exact ⟨cells', rfl, hc⟩
  | (i, v) :: rest, parts', cells, cs, cells', h, hc, hps => by
    cases hps with
    | @cons _ _ u _ rest' hv hrest =>
      simp only [afill] at h
      split at h
      · cases h
      · rename_i off size hpl
        split at h
        · rename_i hcond
          obtain ⟨hval, hsz, hle⟩ := hcond
          have hcells := hv.cells hval
          have hsz' : u.cells.size = size := by have := hcells.1; simp at this; omega
          have hlen : cells.length = cells'.size := by simpa using hc.1
          obtain ⟨cs', h1, h2⟩ := fill_rel place place' hp rest rest' _ cs (splice cells'.toList off u.cells.toList).toArray h (by simpa using hc.splice hcells off) hrest
          refine ⟨cs', ?_, h2⟩
          simp only [Instr.fill, hp i _ hpl]
          rw [if_neg (by simp; omega)]
          have hf : Array.foldl (fun cs (x : Value × Nat) => cs.setIfInBounds (off + x.2) x.1) cells' u.cells.zipIdx = (splice cells'.toList off u.cells.toList).toArray := by
            rw [← Array.foldl_toList]
            have := foldl_splice u.cells.toList off 0 cells'
            simpa using this
          rw [← h1]
          congr 1
        · cases h

theorem parts_rel (hρ : ∀ x, VRel f g (ev fr x) (ρ x)) (l : List (Nat × Operand)) :
    PsRel f g (l.map fun (i, x) => (i, ev fr x)) (l.map fun (i, x) => (i, ρ x)) := by
  induction l with
  | nil => exact .nil
  | cons x l ih => exact .cons (hρ _) ih

theorem build_rel {t : TypeId} {parts parts' : List (Nat × Value)} {v : Value} (h : abuild P t parts = some v) (hps : PsRel f g parts parts') :
    ∃ v', VRel f g v v' ∧ ∀ w, (Instr.build t parts'.toArray).run P w = .ok v' w := by
  unfold abuild at h
  split at h
  · rename_i hok
    split at h
    · rename_i z hz
      simp only [Option.map_eq_some_iff] at h
      obtain ⟨cs, hcs, rfl⟩ := h
      have hzr : VsRel f g z.cells.toList z.cells.toList := zero_cells hz
      simp only [Bool.or_eq_true] at hok
      unfold fieldsOk at hok
      cases hu : P.underlying t with
      | none => simp [hu, arrElem] at hok
      | some d =>
        cases d with
        | struct fs =>
          simp only [hu, arrElem, Option.isSome_none, Bool.false_eq_true, or_false, Array.all_eq_true] at hok
          let y : Field → Nat × Nat := fun x => (x.offset, match P.info? x.type with | some i => i.size | none => 0)
          have hm : ∀ w, (fs.mapM fun (x : Field) => (do pure (x.offset, ← sizeOf x.type) : Sem (Nat × Nat))).run P w = .ok (fs.map y) w := fun w => by
            refine run_mapM_array _ y w fs fun x hx => ?_
            obtain ⟨i, hi, rfl⟩ := Array.mem_iff_getElem.1 (Array.mem_toList_iff.1 hx)
            have := hok i hi
            cases hinf : P.info? fs[i].type with
            | none => simp [hinf] at this
            | some j => simp [run_sizeOf_some hinf, y, hinf]
          have hplace : ∀ i x, placeOf P t i = some x → (fs.map y)[i]? = some x := fun i x hx => by
            unfold placeOf fieldOf arrElem at hx
            simp only [hu] at hx
            cases hfi : fs[i]? with
            | none => simp [hfi] at hx
            | some fl =>
              simp only [hfi] at hx
              cases hinf : P.info? fl.type with
              | none => simp [hinf] at hx
              | some j =>
                simp only [hinf, Option.some.injEq] at hx
                simp [hfi, y, hinf, hx]
          obtain ⟨cs', h1, h2⟩ := fill_rel _ _ hplace parts parts' _ cs z.cells hcs (by simpa using hzr) hps
          refine ⟨.agg cs', .agg (by simpa using h2.1) (by simpa using h2.2), fun w => ?_⟩
          simp only [Instr.build, Sem.run_bind, run_zeroValue_some hz, Result.andThen_ok, run_underlying_some hu]
          rw [hm w]
          simp only [Result.andThen_ok]
          have e2 : Instr.fill (fun x => (fs.map y)[x]?) z.cells parts'.toArray.toList = some cs' := h1
          rw [e2]
          rfl
        | array n e =>
          simp only [hu, Bool.false_eq_true, false_or] at hok
          unfold arrElem at hok
          simp only [hu] at hok
          cases hinf : P.info? e with
          | none => simp [hinf] at hok
          | some j =>
            have hplace : ∀ i x, placeOf P t i = some x → (fun i => some (i * j.size, j.size)) i = some x := fun i x hx => by
              unfold placeOf fieldOf arrElem at hx
              simpa [hu, hinf] using hx
            obtain ⟨cs', h1, h2⟩ := fill_rel _ _ hplace parts parts' _ cs z.cells hcs (by simpa using hzr) hps
            refine ⟨.agg cs', .agg (by simpa using h2.1) (by simpa using h2.2), fun w => ?_⟩
            simp only [Instr.build, Sem.run_bind, run_zeroValue_some hz, Result.andThen_ok, run_underlying_some hu, run_sizeOf_some hinf]
            rw [h1]
            rfl
        | _ => simp [hu, arrElem] at hok
    · cases h
  · cases h

theorem shapeOf_some {t : TypeId} {b : Bool} {n : Nat} (h : shapeOf P t = some (b, n)) : ∃ d i, P.underlying t = some d ∧ P.info? t = some i ∧ b = aggOf d ∧ n = i.size := by
  unfold shapeOf at h
  cases hu : P.underlying t with
  | none => simp [hu] at h
  | some d =>
    cases hi : P.info? t with
    | none => cases d <;> simp [hu, hi] at h
    | some i => cases d <;> simp [hu, hi] at h <;> (obtain ⟨rfl, rfl⟩ := h; exact ⟨_, _, rfl, rfl, rfl, rfl⟩)

theorem fieldOf_some {t : TypeId} {i o n : Nat} {u : TypeId} (h : fieldOf P t i = some (o, u, n)) :
    ∃ fs fl j, P.underlying t = some (.struct fs) ∧ fs[i]? = some fl ∧ P.info? u = some j ∧ fl.offset = o ∧ fl.type = u ∧ j.size = n := by
  unfold fieldOf at h
  cases hu : P.underlying t with
  | none => simp [hu] at h
  | some d =>
    cases d <;> simp only [hu] at h <;> try cases h
    rename_i fs
    cases hfi : fs[i]? with
    | none => simp [hfi] at h
    | some fl =>
      simp only [hfi] at h
      cases hinf : P.info? fl.type with
      | none => simp [hinf] at h
      | some j =>
        simp only [hinf, Option.some.injEq, Prod.mk.injEq] at h
        obtain ⟨rfl, rfl, rfl⟩ := h
        exact ⟨fs, fl, j, rfl, hfi, hinf, rfl, rfl, rfl⟩

theorem arrElem_some {t : TypeId} {n size : Nat} {e : TypeId} (h : arrElem P t = some (n, e, size)) : ∃ j, P.underlying t = some (.array n e) ∧ P.info? e = some j ∧ j.size = size := by
  unfold arrElem at h
  cases hu : P.underlying t with
  | none => simp [hu] at h
  | some d =>
    cases d <;> simp only [hu] at h <;> try cases h
    rename_i m e'
    cases hinf : P.info? e' with
    | none => simp [hinf] at h
    | some j =>
      simp only [hinf, Option.some.injEq, Prod.mk.injEq] at h
      obtain ⟨rfl, rfl, rfl⟩ := h
      exact ⟨j, rfl, hinf, rfl⟩

theorem sliceElem_some {t : TypeId} {size bytes : Nat} {e : TypeId} (h : sliceElem P t = some (e, size, bytes)) : ∃ j, P.underlying t = some (.slice e) ∧ P.info? e = some j ∧ j.size = size ∧ j.bytes = bytes := by
  unfold sliceElem at h
  cases hu : P.underlying t with
  | none => simp [hu] at h
  | some d =>
    cases d <;> simp only [hu] at h <;> try cases h
    rename_i e'
    cases hinf : P.info? e' with
    | none => simp [hinf] at h
    | some j =>
      simp only [hinf, Option.some.injEq, Prod.mk.injEq] at h
      obtain ⟨rfl, rfl, rfl⟩ := h
      exact ⟨j, rfl, hinf, rfl, rfl⟩

theorem part_rel {t : TypeId} {cs : List Value} {cs' : Array Value} {off : Nat} {v : Value} (h : apart P t cs off = some v) (hc : VsRel f g cs cs'.toList) :
    ∃ v', VRel f g v v' ∧ ∀ w, (part t cs' off).run P w = .ok v' w := by
  unfold apart at h
  split at h
  · rename_i n hs
    obtain ⟨d, i, hu, hi, hb, hn⟩ := shapeOf_some hs
    simp only [Option.some.injEq] at h
    subst h
    have hr := (hc.drop off).take n
    have he : (cs'.extract off (off + n)).toList = (cs'.toList.drop off).take n := by simp
    refine ⟨.agg (cs'.extract off (off + n)), .agg (by have := hr.1; simp at this; simp; omega) (by rw [he]; simpa using hr.2), fun w => ?_⟩
    simp only [part, Sem.run_bind, run_isAgg hu, Result.andThen_ok, ← hb, if_true, run_sizeOf_some hi, ← hn, Sem.run_pure]
  · rename_i n hs
    obtain ⟨d, i, hu, hi, hb, hn⟩ := shapeOf_some hs
    obtain ⟨v', h1, h2⟩ := hc.get h
    refine ⟨v', h2, fun w => ?_⟩
    have h1' : cs'[off]? = some v' := by simpa using h1
    simp only [part, Sem.run_bind, run_isAgg hu, Result.andThen_ok, ← hb, Bool.false_eq_true, if_false, h1', Sem.run_pure]
  · cases h

theorem field_rel {t : TypeId} {x x' v : Value} {i : Nat} (h : afield P t x i = some v) (hx : VRel f g x x') : ∃ v', VRel f g v v' ∧ ∀ w, (Instr.field t x' i).run P w = .ok v' w := by
  unfold afield at h
  split at h
  · rename_i cs o u n hf
    obtain ⟨fs, fl, j, hu, hfi, hinf, rfl, rfl, rfl⟩ := fieldOf_some hf
    cases hx with
    | plain hp => simp [splain] at hp
    | @agg a a' hs ha =>
      obtain ⟨v', h1, h2⟩ := part_rel h (cs' := a') ⟨by simpa using hs, ha⟩
      refine ⟨v', h1, fun w => ?_⟩
      simp only [Instr.field, Sem.run_bind, run_underlying_some hu, Result.andThen_ok, hfi, asAgg, Sem.run_pure, h2]
  · cases h

theorem index_rel {t : TypeId} {x x' i i' v : Value} (h : aindex P t x i = some v) (hx : VRel f g x x') (hi : VRel f g i i') : ∃ v', VRel f g v v' ∧ ∀ w, (Instr.index t x' i').run P w = .ok v' w := by
  unfold aindex at h
  split at h
  · rename_i cs k j n e size he
    obtain ⟨ji, hu, hinf, rfl⟩ := arrElem_some he
    have hi' : i' = .int k j := splain_rel hi rfl
    subst hi'
    split at h
    · rename_i hb
      cases hx with
      | plain hp => simp [splain] at hp
      | @agg a a' hs ha =>
        obtain ⟨v', h1, h2⟩ := part_rel h (cs' := a') ⟨by simpa using hs, ha⟩
        refine ⟨v', h1, fun w => ?_⟩
        simp only [Instr.index, asIntOf, Sem.run_bind, Sem.run_pure, Result.andThen_ok, run_underlying_some hu, run_sizeOf_some hinf, if_pos hb, h2]
    · cases h
  · split at h
    · rename_i hp
      simp only [Bool.and_eq_true] at hp
      rw [plain_rel hx hp.1, plain_rel hi hp.2]
      obtain ⟨h1, h2⟩ := pureVal_run (f := f) (g := g) h
      exact ⟨v, h1, h2⟩
    · cases h


theorem extract_rel {x x' v : Value} {i : Nat} (h : aextract x i = some v) (hx : VRel f g x x') : ∃ v', VRel f g v v' ∧ ∀ w, (Instr.extract x' i).run P w = .ok v' w := by
  unfold aextract at h
  split at h
  · rename_i vs
    split at h
    · cases h
    rename_i hns
    cases hx with
    | plain hp => simp [splain] at hp
    | undef => simp at h
    | skip => exact absurd rfl hns
    | @tuple a a' hs ha =>
      obtain ⟨v', h1, h2⟩ := VsRel.get (l := vs.toList) (l' := a'.toList) ⟨by simpa using hs, ha⟩ (by simpa using h)
      exact ⟨v', h2, fun w => by simp only [Array.getElem?_toList] at h1; simp [Instr.extract, h1]⟩
  · cases h

theorem fieldAddr_rel {t : TypeId} {x x' v : Value} {i : Nat} (h : afieldAddr P t x i = some v) (hx : VRel f g x x') : ∃ v', VRel f g v v' ∧ ∀ w, (Instr.fieldAt t x' i).run P w = .ok v' w := by
  unfold afieldAddr at h
  split at h
  · rename_i b off o u n hf
    obtain ⟨fs, fl, j, hu, hfi, hinf, rfl, rfl, rfl⟩ := fieldOf_some hf
    split at h
    · cases h
    · rename_i hne
      simp only [Option.some.injEq] at h
      subst h
      cases hx with
      | plain hp => simp [splain] at hp
      | @ptr _ _ p hp =>
        refine ⟨_, .ptr hp, fun w => ?_⟩
        have ha : (⟨p.block, p.off + off, none⟩ : Addr).add fl.offset = ⟨p.block, p.off + (off + fl.offset), none⟩ := by
          unfold Addr.add; split <;> simp_all [Nat.add_assoc]
        simp only [Instr.fieldAt, Sem.run_bind, run_underlying_some hu, Result.andThen_ok, hfi, Instr.sureAddr, Sem.run_pure, fieldPlace, run_sizeOf_some hinf, if_neg hne, ha]
  · cases h

theorem indexAddr_rel {t : TypeId} {x x' i i' v : Value} (h : aindexAddr P t x i = some v) (hx : VRel f g x x') (hi : VRel f g i i') : ∃ v', VRel f g v v' ∧ ∀ w, (Instr.indexAt t x' i').run P w = .ok v' w := by
  unfold aindexAddr at h
  have hadd : ∀ (p : Place) (off m : Nat), (⟨p.block, p.off + off, none⟩ : Addr).add m = ⟨p.block, p.off + (off + m), none⟩ := fun p off m => by
    unfold Addr.add; split <;> simp_all [Nat.add_assoc]
  split at h
  · rename_i k j
    have hi' : i' = .int k j := splain_rel hi rfl
    subst hi'
    split at h
    · rename_i n e size he
      obtain ⟨ji, hu, hinf, rfl⟩ := arrElem_some he
      split at h
      · rename_i b off
        split at h
        · rename_i hb
          simp only [Option.some.injEq] at h
          subst h
          cases hx with
          | plain hp => simp [splain] at hp
          | @ptr _ _ p hp =>
            refine ⟨_, .ptr hp, fun w => ?_⟩
            simp only [Instr.indexAt, asIntOf, Sem.run_bind, Sem.run_pure, Result.andThen_ok, run_underlying_some hu, Instr.sureAddr, if_pos hb, run_sizeOf_some hinf, hadd]
        · cases h
      · cases h
    · rename_i hnone
      split at h
      · rename_i e size bytes b off sp len cap he
        obtain ⟨ji, hu, hinf, rfl, rfl⟩ := sliceElem_some he
        split at h
        · rename_i hb
          simp only [Option.some.injEq] at h
          subst h
          have fin : ∀ (p : Place) (cap' : Nat) (w : World), (Instr.indexAt t (.slice (some ⟨p.block, p.off + off, none⟩) len cap') (.int k j)).run P w = .ok (.pointer (some ⟨p.block, p.off + (off + j.toNat * ji.size), none⟩)) w := fun p cap' w => by
            simp only [Instr.indexAt, asIntOf, Sem.run_bind, Sem.run_pure, Result.andThen_ok, run_underlying_some hu, if_pos hb, run_sizeOf_some hinf, hadd]
          cases hx with
          | plain hp => simp [splain] at hp
          | @slice _ _ _ _ cap' p hp h1 h2 h3 => exact ⟨_, .ptr hp, fin p cap'⟩
          | @sliceX _ _ _ _ p hp => exact ⟨_, .ptr hp, fin p cap⟩
          | @sliceE => exfalso; have := hb.2; have := hb.1; omega
          | slice0 => exfalso; have := hb.2; have := hb.1; omega
        · cases h
      · cases h
  · cases h

theorem nilCheck_rel {x x' v : Value} {o : Oper} {y : Operand} (ho : o.op = .nilCheck y) (h : anilCheck x = some v) (hx : VRel f g x x') (hy : ρ y = x') : ∃ v', VRel f g v v' ∧ ∀ w, (execOp ρ o).run P w = .ok (.value v') w := by
  unfold anilCheck at h
  split at h
  · simp only [Option.some.injEq] at h
    subst h
    cases hx with
    | plain hp => simp [splain] at hp
    | ptr hp => exact ⟨_, .ptr hp, fun w => by simp [execOp, ho, hy]⟩
  · simp only [Option.some.injEq] at h
    subst h
    cases hx with
    | plain hp => simp [splain] at hp
    | func a b c d => exact ⟨_, .func a b c d, fun w => by simp [execOp, ho, hy]⟩
  · simp only [Option.some.injEq] at h
    subst h
    cases hx with
    | plain hp => simp [splain] at hp
    | yield hp => exact ⟨_, .yield hp, fun w => by simp [execOp, ho, hy]⟩
  · cases h

theorem VRel.slice_some {a : Addr} {n c : Nat} {v : Value} (h : VRel f g (.slice (some a) n c) v) : ∃ a' c', v = .slice (some a') n c' := by
  cases h with
  | plain hp => simp [splain] at hp
  | slice => exact ⟨_, _, rfl⟩
  | sliceX => exact ⟨_, _, rfl⟩
  | sliceE => exact ⟨_, _, rfl⟩
  | slice0 => exact ⟨_, _, rfl⟩

theorem VRel.ptr_some {a : Addr} {v : Value} (h : VRel f g (.pointer (some a)) v) : ∃ a', v = .pointer (some a') := by
  cases h with
  | plain hp => simp [splain] at hp
  | ptr => exact ⟨_, rfl⟩

theorem VRel.func_some {k : Fn} {a b : Array Value} {v : Value} (h : VRel f g (.func k a b) v) : ∃ k' a' b', v = .func k' a' b' := by
  cases h with
  | plain hp => simp [splain] at hp
  | func => exact ⟨_, _, _, rfl⟩
  | yield => exact ⟨_, _, _, rfl⟩

theorem run_equal_slice1 {t : TypeId} {e : TypeId} (hu : P.underlying t = some (.slice e)) (a : Addr) (n c m k : Nat) (w : World) : (Op.equal t (.slice (some a) n c) (.slice none m k)).run P w = .ok false w := by
  obtain ⟨d, hd⟩ : ∃ d, Op.maxDepth = d + 1 := ⟨9999, rfl⟩
  unfold Op.equal
  rw [hd]
  simp only [Op.equalIn, Sem.run_bind, run_underlying_some hu, Result.andThen_ok]
  rfl

theorem run_equal_slice2 {t : TypeId} {e : TypeId} (hu : P.underlying t = some (.slice e)) (a : Addr) (n c m k : Nat) (w : World) : (Op.equal t (.slice none m k) (.slice (some a) n c)).run P w = .ok false w := by
  obtain ⟨d, hd⟩ : ∃ d, Op.maxDepth = d + 1 := ⟨9999, rfl⟩
  unfold Op.equal
  rw [hd]
  simp only [Op.equalIn, Sem.run_bind, run_underlying_some hu, Result.andThen_ok]
  rfl

theorem run_equal_ptr1 {t : TypeId} {e : TypeId} (hu : P.underlying t = some (.pointer e)) (a : Addr) (w : World) : (Op.equal t (.pointer (some a)) (.pointer none)).run P w = .ok false w := by
  obtain ⟨d, hd⟩ : ∃ d, Op.maxDepth = d + 1 := ⟨9999, rfl⟩
  unfold Op.equal
  rw [hd]
  simp only [Op.equalIn, Sem.run_bind, run_underlying_some hu, Result.andThen_ok]
  rfl

theorem run_equal_ptr2 {t : TypeId} {e : TypeId} (hu : P.underlying t = some (.pointer e)) (a : Addr) (w : World) : (Op.equal t (.pointer none) (.pointer (some a))).run P w = .ok false w := by
  obtain ⟨d, hd⟩ : ∃ d, Op.maxDepth = d + 1 := ⟨9999, rfl⟩
  unfold Op.equal
  rw [hd]
  simp only [Op.equalIn, Sem.run_bind, run_underlying_some hu, Result.andThen_ok]
  rfl

theorem run_equal_func1 {t : TypeId} {x y : Array TypeId} {z : Bool} (hu : P.underlying t = some (.func x y z)) (k : Fn) (a b : Array Value) (w : World) : (Op.equal t (.func k a b) .nilFunc).run P w = .ok false w := by
  obtain ⟨d, hd⟩ : ∃ d, Op.maxDepth = d + 1 := ⟨9999, rfl⟩
  unfold Op.equal
  rw [hd]
  simp only [Op.equalIn, Sem.run_bind, run_underlying_some hu, Result.andThen_ok]
  rfl

theorem run_equal_func2 {t : TypeId} {x y : Array TypeId} {z : Bool} (hu : P.underlying t = some (.func x y z)) (k : Fn) (a b : Array Value) (w : World) : (Op.equal t .nilFunc (.func k a b)).run P w = .ok false w := by
  obtain ⟨d, hd⟩ : ∃ d, Op.maxDepth = d + 1 := ⟨9999, rfl⟩
  unfold Op.equal
  rw [hd]
  simp only [Op.equalIn, Sem.run_bind, run_underlying_some hu, Result.andThen_ok]
  rfl

theorem eqGuard_ints {op : BinOp} {t : TypeId} {x y : Operand} {k l : IntKind} {a b : Int} (w : World) : (eqGuard op t x y (.int k a) (.int l b)).run P w = .ok () w := by
  unfold eqGuard
  cases op <;> rfl

theorem bin_rel {op : BinOp} {t : TypeId} {xo yo : Operand} {x y x' y' v : Value} (h : abin P op t xo yo x y = some v) (hx : VRel f g x x') (hy : VRel f g y y') :
    ∃ v', VRel f g v v' ∧ ∀ w, (do eqGuard op t xo yo x' y'; binOp op t x' y' : Sem Value).run P w = .ok v' w := by
  unfold abin at h
  split at h
  · rename_i k a l b
    have e1 : x' = .int k a := splain_rel hx rfl
    have e2 : y' = .int l b := splain_rel hy rfl
    subst e1 e2
    split at h
    · rename_i hkl
      subst hkl
      split at h
      · rename_i u hu
        simp only [Option.some.injEq] at h
        subst h
        have hsp : splain u = true := by
          unfold aint at hu
          cases op <;> simp at hu <;> first | (subst hu; rfl) | (obtain ⟨_, rfl⟩ := hu; rfl)
        refine ⟨u, .plain hsp, fun w => ?_⟩
        simp only [Sem.run_bind, eqGuard_ints, Result.andThen_ok]
        unfold aint at hu
        cases op <;> simp at hu <;> first
          | (subst hu; simp [binOp, Op.intArith, Op.intCmp])
          | (obtain ⟨hb, rfl⟩ := hu; simp [binOp, Op.intDiv, hb])
      · obtain ⟨h1, h2⟩ := pureVal_run (f := f) (g := g) h
        exact ⟨v, h1, h2⟩
    · obtain ⟨h1, h2⟩ := pureVal_run (f := f) (g := g) h
      exact ⟨v, h1, h2⟩
  · split at h
    · rename_i hp
      simp only [Bool.and_eq_true] at hp
      rw [plain_rel hx hp.1, plain_rel hy hp.2]
      obtain ⟨h1, h2⟩ := pureVal_run (f := f) (g := g) h
      exact ⟨v, h1, h2⟩
    · have key : ∀ b, anil P t x y = some b → b = false ∧ (∀ w, (Op.equal t x' y').run P w = .ok b w) ∧ (∀ op w, (op = .eql ∨ op = .neq) → (eqGuard op t xo yo x' y').run P w = .ok () w) ∧
          (binOp .eql t x' y' = do pure (.bool (← Op.equal t x' y'))) ∧ (binOp .neq t x' y' = do pure (.bool (!(← Op.equal t x' y')))) := by
        intro b hb
        unfold anil at hb
        split at hb <;> first | (cases hb; done) | simp only [Option.some.injEq] at hb
        · rename_i hu
          subst hb
          obtain ⟨a', c', rfl⟩ := hx.slice_some
          rw [splain_rel hy rfl]
          exact ⟨rfl, fun w => run_equal_slice1 (by assumption) _ _ _ _ _ w, fun op w hop => by rcases hop with rfl | rfl <;> rfl, rfl, rfl⟩
        · rename_i hu
          subst hb
          obtain ⟨a', c', rfl⟩ := hy.slice_some
          rw [splain_rel hx rfl]
          exact ⟨rfl, fun w => run_equal_slice2 (by assumption) _ _ _ _ _ w, fun op w hop => by rcases hop with rfl | rfl <;> rfl, rfl, rfl⟩
        · rename_i hu
          subst hb
          obtain ⟨a', rfl⟩ := hx.ptr_some
          rw [splain_rel hy rfl]
          exact ⟨rfl, fun w => run_equal_ptr1 (by assumption) _ w, fun op w hop => by rcases hop with rfl | rfl <;> rfl, rfl, rfl⟩
        · rename_i hu
          subst hb
          obtain ⟨a', rfl⟩ := hy.ptr_some
          rw [splain_rel hx rfl]
          exact ⟨rfl, fun w => run_equal_ptr2 (by assumption) _ w, fun op w hop => by rcases hop with rfl | rfl <;> rfl, rfl, rfl⟩
        · rename_i hu
          subst hb
          obtain ⟨k', a', b', rfl⟩ := hx.func_some
          rw [splain_rel hy rfl]
          exact ⟨rfl, fun w => run_equal_func1 (by assumption) _ _ _ w, fun op w hop => by rcases hop with rfl | rfl <;> rfl, rfl, rfl⟩
        · rename_i hu
          subst hb
          obtain ⟨k', a', b', rfl⟩ := hy.func_some
          rw [splain_rel hx rfl]
          exact ⟨rfl, fun w => run_equal_func2 (by assumption) _ _ _ w, fun op w hop => by rcases hop with rfl | rfl <;> rfl, rfl, rfl⟩
      split at h
      · rename_i b hb
        simp only [Option.some.injEq] at h
        subst h
        obtain ⟨_, h1, h2, h3, _⟩ := key b hb
        refine ⟨.bool b, .plain rfl, fun w => ?_⟩
        rw [h3]
        simp [h2, h1]
      · rename_i b hb
        simp only [Option.some.injEq] at h
        subst h
        obtain ⟨_, h1, h2, _, h3⟩ := key b hb
        refine ⟨.bool (!b), .plain rfl, fun w => ?_⟩
        rw [h3]
        simp [h2, h1]
      · cases h
end
end Go.Abs
