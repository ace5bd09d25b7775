/- Code, and calls: what the evaluator finds, the machine does. -/
import Derived.Test.YtfgnjndicidpkaaAbsDrawn
import Derived.RangeFuncNested
import Derived.LoopNIn
namespace Go.Abs

section
variable {P : Program} {f : FMap} {g : LMap} {s s' : St} {w : World} {fr : Fr} {call : Value → List Value → St → Option (Value × St)}

variable {a : Act} {N : Nat} {ro : Option Nat}

/-- The premises that go with a piece of code. -/
structure At (f : FMap) (g : LMap) (s : St) (w : World) (fr : Fr) (a : Act) (N : Nat) (ro : Option Nat) : Prop where
  fr : VsRel f g fr a.tmps.toList
  inj : Inj f g s w
  marks : Marks N w a.defers
  low : N ≤ w.heap.size
  idle : ro.isSome = true → a.defers = []
  inner : ∀ m, ro = some m → ∃ l, g l = some m

theorem At.of_post (h : At f g s w fr a N ro) {e : AExit} {fr' : Fr} {e' : Exit} {a' : Act} {w' : World} (hp : CPost f g s w N ro e fr' s' e' a' w') :
    ∃ f' g', Keep f g s w f' g' s' w' ∧ At f' g' s' w' fr' a' N ro := by
  obtain ⟨_, ⟨f', g', k, i, r⟩, m, hn⟩ := hp
  exact ⟨f', g', k, r, i, m, Nat.le_trans h.low k.heap, hn, fun m hm => let ⟨l, hl⟩ := h.inner m hm; ⟨l, k.eg l m hl⟩⟩

theorem At.here (h : At f g s w fr a N ro) (e : AExit) : CPost f g s w N ro e fr s (exitOf e) a w := ⟨rfl, ⟨f, g, h.inj.keep, h.inj, h.fr⟩, h.marks, h.idle⟩

theorem code_sim (hmx : P.follows .mixedOrders = true) (hc : CallSim P call) (n : Nat) : ∀ (c : Code) (fr fr' : Fr) (s s' : St) (e : AExit), code P call n c fr s = some (e, fr', s') → codeOk c = true →
    ∀ f g a w N ro, At f g s w fr a N ro → c.wpIn (fence ro) 0 P (CPost f g s w N ro e fr' s') a w := by
  intro c
  induction c with
  | skip =>
    intro fr fr' s s' e h _ f g a w N ro ha
    simp only [code, Option.some.injEq, Prod.mk.injEq] at h
    obtain ⟨rfl, rfl, rfl⟩ := h
    exact wpIn_skip (ha.here .normal)
  | label l =>
    intro fr fr' s s' e h _ f g a w N ro ha
    simp only [code, Option.some.injEq, Prod.mk.injEq] at h
    obtain ⟨rfl, rfl, rfl⟩ := h
    exact wpIn_label (ha.here .normal)
  | exit id =>
    intro fr fr' s s' e h _ f g a w N ro ha
    simp only [code, Option.some.injEq, Prod.mk.injEq] at h
    obtain ⟨rfl, rfl, rfl⟩ := h
    exact wpIn_exit (ha.here (.exit id))
  | ret =>
    intro fr fr' s s' e h _ f g a w N ro ha
    simp only [code, Option.some.injEq, Prod.mk.injEq] at h
    obtain ⟨rfl, rfl, rfl⟩ := h
    exact wpIn_ret (ha.here .ret)
  | region id ops draw =>
    intro fr fr' s s' e h hok f g a w N ro ha
    simp only [code] at h
    split at h
    · rename_i fr1 s1 hs
      simp only [Option.some.injEq, Prod.mk.injEq] at h
      obtain ⟨rfl, rfl, rfl⟩ := h
      cases draw with
      | false => exact region_sim hc (by simpa using hs) ha.fr ha.inj ha.marks ha.idle
      | true => exact draw_sim hmx hc (by simpa [codeOk] using hok) (by simpa using hs) ha.fr ha.inj ha.marks ha.idle
    · cases h
  | seq x y ihx ihy =>
    intro fr fr' s s' e h hok f g a w N ro ha
    simp only [codeOk, Bool.and_eq_true] at hok
    simp only [code] at h
    refine wpIn_seq ?_
    split at h
    · rename_i fr1 s1 hx
      refine wpIn_mono (ihx _ _ _ _ _ hx hok.1 f g a w N ro ha) ?_
      rintro e1 a1 w1 hp
      obtain ⟨f1, g1, k1, ha1⟩ := ha.of_post hp
      obtain ⟨rfl, _⟩ := hp
      exact wpIn_mono (ihy _ _ _ _ _ h hok.2 f1 g1 a1 w1 N ro ha1) fun e2 a2 w2 hp2 => hp2.trans k1
    · rename_i hne
      refine wpIn_mono (ihx _ _ _ _ _ h hok.1 f g a w N ro ha) ?_
      rintro e1 a1 w1 hp
      have he : e1 = exitOf e := hp.1
      have hne' : e ≠ .normal := fun he => by subst he; exact hne _ _ h
      cases e with
      | normal => exact absurd rfl hne'
      | exit id => subst he; exact hp
      | ret => subst he; exact hp
  | cond c x y ihx ihy =>
    intro fr fr' s s' e h hok f g a w N ro ha
    simp only [codeOk, Bool.and_eq_true] at hok
    simp only [code] at h
    split at h
    · rename_i t ht
      have hb : a.eval c = .bool t := splain_rel (ht ▸ rel_eval ha.fr c) rfl
      refine wpIn_cond hb ?_
      cases t with
      | true => exact ihx _ _ _ _ _ (by simpa using h) hok.1 f g a w N ro ha
      | false => exact ihy _ _ _ _ _ (by simpa using h) hok.2 f g a w N ro ha
    · cases h
  | block id c ih =>
    intro fr fr' s s' e h hok f g a w N ro ha
    simp only [codeOk] at hok
    simp only [code] at h
    refine wpIn_block ?_
    split at h
    · rename_i id' fr1 s1 hx
      refine wpIn_mono (ih _ _ _ _ _ hx hok f g a w N ro ha) ?_
      rintro e1 a1 w1 ⟨rfl, hp⟩
      simp only [exitOf, Exit.inBlock]
      split at h
      · rename_i hid
        simp only [Option.some.injEq, Prod.mk.injEq] at h
        obtain ⟨rfl, rfl, rfl⟩ := h
        rw [if_pos hid]
        exact ⟨rfl, hp⟩
      · rename_i hid
        simp only [Option.some.injEq, Prod.mk.injEq] at h
        obtain ⟨rfl, rfl, rfl⟩ := h
        rw [if_neg hid]
        exact ⟨rfl, hp⟩
    · rename_i hne
      refine wpIn_mono (ih _ _ _ _ _ h hok f g a w N ro ha) ?_
      rintro e1 a1 w1 hp
      have he : e1 = exitOf e := hp.1
      cases e with
      | normal => subst he; exact hp
      | ret => subst he; exact hp
      | exit id' => exact absurd h (by intro h; exact hne _ _ _ h)
  | loop c ih =>
    intro fr fr' s s' e h hok f g a w N ro ha
    simp only [codeOk] at hok
    simp only [code] at h
    have key : ∀ (Q : Exit → Act → World → Prop) (m : Nat) (fr : Fr) (s : St) (f : FMap) (g : LMap) (a : Act) (w : World), iter (code P call n c) m fr s = some (e, fr', s') → At f g s w fr a N ro →
        (∀ e' a' w', CPost f g s w N ro e fr' s' e' a' w' → Q e' a' w') → Code.roundsIn (fence ro) 0 P c Q m a w := by
      intro Q m
      induction m with
      | zero => intro fr s f g a w hi; simp [iter] at hi
      | succ m ihm =>
        intro fr s f g a w hi ha hQ
        simp only [iter] at hi
        rw [roundsIn_succ]
        split at hi
        · rename_i fr1 s1 hx
          refine wpIn_mono (ih _ _ _ _ _ hx hok f g a w N ro ha) ?_
          rintro e1 a1 w1 hp
          obtain ⟨f1, g1, k1, ha1⟩ := ha.of_post hp
          obtain ⟨rfl, _⟩ := hp
          exact ihm fr1 s1 f1 g1 a1 w1 hi ha1 fun e' a' w' h' => hQ e' a' w' (h'.trans k1)
        · rename_i hne
          refine wpIn_mono (ih _ _ _ _ _ hi hok f g a w N ro ha) ?_
          rintro e1 a1 w1 hp
          have he : e1 = exitOf e := hp.1
          cases e with
          | normal => exact absurd hi (by intro hi; exact hne _ _ hi)
          | exit id => subst he; exact hQ _ _ _ hp
          | ret => subst he; exact hQ _ _ _ hp
    exact wpIn_loop_rounds n (key _ n fr s f g a w h ha fun _ _ _ h => h)
  | rangeFunc fo ps assign body iha ihb =>
    intro fr fr' s s' e h hok f g a w N ro ha
    simp only [codeOk, Bool.and_eq_true] at hok
    simp only [code] at h
    split at h
    · rename_i k fa fb hf
      split at h
      · rename_i vv s2 hcall
        split at h
        · rename_i r hr
          split at h
          · cases h
          · rename_i hbusy
            have hfo := hf ▸ rel_eval ha.fr fo
            obtain ⟨fa', fb', hfo'⟩ : ∃ fa' fb', a.eval fo = .func (.func k) fa' fb' := by
              generalize a.eval fo = y at hfo
              cases hfo with
              | plain hp => simp [splain] at hp
              | func => exact ⟨_, _, rfl⟩
            -- what goes on behind the entry, wherever the record lies
            have fin : ∀ (l : Nat) (ms : List Deferred) (w1 : World), Keep f g s w f (put g s.nloops l) (s.pushLoop { fr, params := ps, assign, body, state := .ready, pending := none }) w1 →
                Inj f (put g s.nloops l) (s.pushLoop { fr, params := ps, assign, body, state := .ready, pending := none }) w1 → Marks N w1 (ms ++ a.defers) → (ro.isSome = true → ms ++ a.defers = []) →
                (callFunc k ((fa' ++ #[.func (.yield l) #[] #[]]) ++ fb')).run P w1 = .ok (.enter k ((fa' ++ #[.func (.yield l) #[] #[]]) ++ fb')) w1 ∧
                CallsIn (fence ro) 0 P k ((fa' ++ #[.func (.yield l) #[] #[]]) ++ fb') w1 (rangePost (fence ro) 0 P l (CPost f g s w N ro e fr' s') { a with defers := ms ++ a.defers }) := by
              intro l ms w1 k1 i1 hm1 hn1
              have hi := hc _ _ _ _ _ hcall f (put g s.nloops l) w1 (a.eval fo) [.func (.yield l) #[] #[]] ((hf ▸ rel_eval ha.fr fo).mono k1.ef k1.eg) (.cons (.yield (put_same _ _ _)) .nil) i1
              rw [hfo'] at hi
              rcases hi with ⟨h1, h2⟩ | ⟨_, hpl, _⟩
              case inr => have := hpl (.func (.yield l) #[] #[]) (by simp); simp [plain, splain] at this
              refine ⟨h1, CallsIn.mono (F := fence ro) h2 ?_⟩
              rintro e3 w3 ⟨v3, rfl, f3, g3, k3, i3, _⟩
              have hg3 : g3 s.nloops = some l := k3.eg _ _ (put_same _ _ _)
              obtain ⟨r', hr', tm, fn', dd, x1, x2, x3⟩ := i3.loop _ _ hg3
              rw [hr] at hr'; cases hr'
              obtain ⟨i4, k4⟩ := i3.setLoop (w' := w3.putObj l (.loop { state := .exhausted, pending := r.pending, fn := fn', tmps := tm, params := r.params, assign := r.assign, body := r.body, defers := dd })) (st := .exhausted) (pe := r.pending) hg3 hr x1 x2 x3 rfl ⟨rfl, rfl, rfl⟩
              have hend := run_endLoop (P := P) x1 hbusy
              have kk := k1.trans (k3.trans k4)
              have hm4 : Marks N (w3.putObj l (.loop { state := .exhausted, pending := r.pending, fn := fn', tmps := tm, params := r.params, assign := r.assign, body := r.body, defers := dd })) (ms ++ a.defers) := hm1.keep (k3.trans k4) i1
              have hfin : ∀ e', CPost f g s w N ro e' fr (s2.setLoop s.nloops { r with state := .exhausted }) (exitOf e') { a with defers := ms ++ a.defers } (w3.putObj l (.loop { state := .exhausted, pending := r.pending, fn := fn', tmps := tm, params := r.params, assign := r.assign, body := r.body, defers := dd })) := fun e' =>
                ⟨rfl, ⟨f3, g3, kk, i4, ha.fr.mono kk.ef kk.eg⟩, hm4, hn1⟩
              refine ⟨_, _, hend, ?_⟩
              split at h
              · rename_i hp
                simp only [Option.some.injEq, Prod.mk.injEq] at h
                obtain ⟨rfl, rfl, rfl⟩ := h
                simp only [hp]
                have := hfin .normal
                simp only [hp] at this
                exact this
              · rename_i hp
                simp only [Option.some.injEq, Prod.mk.injEq] at h
                obtain ⟨rfl, rfl, rfl⟩ := h
                simp only [hp]
                have := hfin .ret
                simp only [hp] at this
                exact wpIn_ret this
              · rename_i id hp
                simp only [Option.some.injEq, Prod.mk.injEq] at h
                obtain ⟨rfl, rfl, rfl⟩ := h
                simp only [hp]
                have := hfin (.exit id)
                simp only [hp] at this
                exact wpIn_exit this
              · cases h
            refine wpIn_rangeFunc ?_
            intro fn _
            cases ro with
            | none =>
              obtain ⟨i0, k0⟩ := ha.inj.extra (.deferred (some []))
              obtain ⟨i1, k1⟩ := i0.pushLoop (r := { fr, params := ps, assign, body, state := .ready, pending := none }) (tmps := a.tmps) (fn := fn) (d := w.heap.size) ha.fr hok
              have hl : (w.alloc (.deferred (some []))).heap.size = w.heap.size + 1 := by simp
              rw [hl] at i1 k1
              have hm1 : Marks N ((w.alloc (.deferred (some []))).alloc (.loop { state := .ready, pending := none, fn, tmps := a.tmps, params := ps, assign, body, defers := w.heap.size })) ([{ target := .collected w.heap.size, args := #[] }] ++ a.defers) := by
                obtain ⟨rs, hrs, hnd, hall⟩ := ha.marks.keep (k0.trans k1) ha.inj
                refine ⟨w.heap.size :: rs, by rw [hrs]; rfl, ?_, ?_⟩
                · refine List.nodup_cons.2 ⟨fun hmem => ?_, hnd⟩
                  obtain ⟨rs', hrs', _, hall'⟩ := ha.marks
                  have : rs = rs' := by
                    have e1 := hrs.symm.trans hrs'
                    have inj : ∀ l m : List Nat, l.map markOf = m.map markOf → l = m := by
                      intro l
                      induction l with
                      | nil => intro m hm; cases m with | nil => rfl | cons => simp at hm
                      | cons x l ihl =>
                        intro m hm
                        cases m with
                        | nil => simp at hm
                        | cons y m =>
                          simp only [List.map_cons, List.cons.injEq, markOf, Deferred.mk.injEq, Target.collected.injEq, and_true] at hm
                          rw [hm.1, ihl m hm.2]
                    exact inj _ _ e1
                  subst this
                  have := (Array.getElem?_eq_some_iff.1 (hall' _ hmem).2).1
                  omega
                · intro r hr
                  rcases List.mem_cons.1 hr with rfl | hr
                  · exact ⟨ha.low, by rw [heap_alloc_lt _ _ (by simp)]; exact heap_alloc_eq _ _⟩
                  · exact hall r hr
              obtain ⟨h1, h2⟩ := fin _ _ _ (k0.trans k1) i1 hm1 (fun e => by cases e)
              refine ⟨w.heap.size + 1, [{ target := .collected w.heap.size, args := #[] }], _, { target := .fn (.func k) fb', args := fa' ++ #[.func (.yield (w.heap.size + 1)) #[] #[]] }, _, k, _, _, run_enterLoop_outer _ _ _ _ _, ?_, (fun _ _ => trivial), h1, (fun e => by cases e), h2⟩
              simp only [resolve, hfo', Deferred.ofValue]
              simp [Act.eval]
            | some m =>
              obtain ⟨l0, hl0⟩ := ha.inner m rfl
              obtain ⟨r0, _, tm0, fn0, d0, hm0, _⟩ := ha.inj.loop l0 m hl0
              obtain ⟨i1, k1⟩ := ha.inj.pushLoop (r := { fr, params := ps, assign, body, state := .ready, pending := none }) (tmps := a.tmps) (fn := fn) (d := d0) ha.fr hok
              have hid := ha.idle rfl
              obtain ⟨h1, h2⟩ := fin w.heap.size [] _ k1 i1 (ha.marks.keep k1 ha.inj) (fun _ => hid)
              refine ⟨w.heap.size, [], _, { target := .fn (.func k) fb', args := fa' ++ #[.func (.yield w.heap.size) #[] #[]] }, _, k, _, _, run_enterLoop_inner hm0 _ _ _ _ _, ?_, (fun _ _ => trivial), h1, (fun e => by cases e), h2⟩
              simp only [resolve, hfo', Deferred.ofValue]
              simp [Act.eval]
        · cases h
      · cases h
    · cases h
  | _ => intro fr fr' s s' e h; simp [code] at h

/-! ### Results -/

/-- What a result variable holds. -/
def resRun (tmps : Array Value) : ResultVar → Sem Value
  | .tmp t => pure (tmps.getD t undef)
  | .cell a t => do loadVar t (← asAddr (tmps.getD a undef))

theorem results_eq (fn : Func) (tmps : Array Value) : results fn tmps = (do
    let vs ← fn.results.mapM (resRun tmps)
    pure (if h : vs.size = 1 then vs[0] else .tuple vs)) := by
  unfold results
  have : (fun (x : ResultVar) => (match x with | .tmp t => pure (tmps.getD t undef) | .cell a t => do loadVar t (← asAddr (tmps.getD a undef)) : Sem Value)) = resRun tmps := by
    funext x; cases x <;> rfl
  rw [← this]
  rfl

theorem result_rel {a : Act} (h : Inj f g s w) (hfr : VsRel f g fr a.tmps.toList) {r : ResultVar} {v : Value} (hr : aresult P fr s r = some v) :
    ∃ v', VRel f g v v' ∧ (resRun a.tmps r).run P w = .ok v' w := by
  cases r with
  | tmp t =>
    simp only [aresult, Option.some.injEq] at hr
    subst hr
    exact ⟨_, rel_eval hfr (.tmp t), rfl⟩
  | cell x t =>
    simp only [aresult] at hr
    have hx := rel_eval hfr (.tmp x)
    obtain ⟨v', h1, h2⟩ := load_rel (P := P) h hr hx
    refine ⟨v', h1, ?_⟩
    simp only [Act.eval] at h2
    have hp : ∃ q, a.tmps.getD x undef = .pointer (some q) := by
      simp only [ev, Act.eval] at hx
      generalize a.tmps.getD x undef = y at hx
      unfold aload at hr
      split at hr
      · rename_i b off hb
        rw [hb] at hx
        obtain ⟨q, rfl⟩ := hx.ptr_some
        exact ⟨q, rfl⟩
      · cases hr
    obtain ⟨q, hq⟩ := hp
    simp only [resRun]
    rw [hq] at h2 ⊢
    simpa [Instr.loadAt, Instr.sureAddr, asAddr] using h2

theorem resultList_rel {a : Act} (h : Inj f g s w) (hfr : VsRel f g fr a.tmps.toList) : ∀ (l : List ResultVar) (vs : List Value), aresultList P fr s l = some vs →
    ∃ vs', VsRel f g vs vs' ∧ (l.mapM (resRun a.tmps)).run P w = .ok vs' w
  | [], vs, hr => by
    simp only [aresultList, Option.some.injEq] at hr
    subst hr
    exact ⟨[], .nil, by simp⟩
  | r :: l, vs, hr => by
    simp only [aresultList] at hr
    split at hr
    · rename_i v vs1 h1 h2
      simp only [Option.some.injEq] at hr
      subst hr
      obtain ⟨v', a1, a2⟩ := result_rel h hfr h1
      obtain ⟨vs', b1, b2⟩ := resultList_rel h hfr l vs1 h2
      refine ⟨v' :: vs', .cons a1 b1, ?_⟩
      simp only [List.mapM_cons, Sem.run_bind]
      rw [a2]
      simp only [Result.andThen_ok]
      rw [b2]
      rfl
    · cases hr

theorem results_rel {a : Act} (h : Inj f g s w) (hfr : VsRel f g fr a.tmps.toList) {fn : Func} {v : Value} (hr : aresults P fn fr s = some v) :
    ∃ v', VRel f g v v' ∧ (results fn a.tmps).run P w = .ok v' w := by
  unfold aresults at hr
  have key : ∀ vs, aresultList P fr s fn.results.toList = some vs → ∃ vs', VsRel f g vs vs' ∧ (results fn a.tmps).run P w = .ok (if h : vs'.toArray.size = 1 then vs'.toArray[0] else .tuple vs'.toArray) w := by
    intro vs hvs
    obtain ⟨vs', a1, a2⟩ := resultList_rel h hfr _ _ hvs
    refine ⟨vs', a1, ?_⟩
    rw [results_eq, Array.mapM_eq_mapM_toList]
    simp only [Sem.run_bind, Sem.run_map, a2, Result.andThen_ok, Sem.run_pure]
  split at hr
  · rename_i v0 hv
    simp only [Option.some.injEq] at hr
    subst hr
    obtain ⟨vs', a1, a2⟩ := key _ hv
    obtain ⟨v', l', rfl, b1, b2⟩ := a1.of_cons
    rw [b2.of_nil] at a2
    exact ⟨v', b1, by simpa using a2⟩
  · rename_i l hne hl
    simp only [Option.some.injEq] at hr
    subst hr
    obtain ⟨vs', a1, a2⟩ := key _ hl
    refine ⟨.tuple vs'.toArray, .tuple (by simpa using a1.1) (by simpa using a1.2), ?_⟩
    rw [a2]
    have : ¬ vs'.toArray.size = 1 := by
      intro h1
      have h2 : l.length = 1 := by rw [a1.1]; simpa using h1
      obtain ⟨x, rfl⟩ := List.length_eq_one_iff.1 h2
      exact hne x rfl
    rw [dif_neg this]
  · cases hr

/-! ### Calls -/

/-- What the program must be like: its code is fit for the evaluator, and no function is one of the runtime's that the machine treats by name. -/
structure Fit (P : Program) : Prop where
  mixed : P.follows .mixedOrders = true
  funcs : ∀ (k : Nat) (fn : Func) (c : Code), P.funcs[k]? = some fn → fn.body = some c → codeOk c = true ∧ (fn.name == "runtime.NumGoroutine") = false

/-- The way out of an activation that bears marks. -/
theorem leaves_marks {fn : Func} {tmps : Array Value} {R : Ending → World → Prop} : ∀ (rs : List Nat) (w : World), rs.Nodup → (∀ r ∈ rs, w.heap[r]? = some (.deferred (some []))) →
    (∀ w', w'.heap.size = w.heap.size → Calm w w' → (∀ c, (c ∈ rs → False) → w'.heap[c]? = w.heap[c]?) → ∃ v, (results fn tmps).run P w' = .ok v w' ∧ R (.returned v) w') →
    LeavesInM Fence.wide 0 P fn tmps R (rs.map markOf) .returning w
  | [], w, _, _, h => by
    obtain ⟨v, h1, h2⟩ := h w rfl (Calm.refl w) (fun _ _ => rfl)
    exact ⟨v, h1, h2⟩
  | r :: rs, w, hnd, hall, h => by
    have hr := hall r (by simp)
    have hlt : r < w.heap.size := (Array.getElem?_eq_some_iff.1 hr).1
    obtain ⟨hnr, hnd'⟩ := List.nodup_cons.1 hnd
    refine ⟨by simp, .inl ⟨r, w.putObj r (.deferred none), rfl, run_takeDeferred hr, ?_⟩⟩
    refine leaves_marks rs _ hnd' (fun x hx => ?_) (fun w' hs hcalm hw' => ?_)
    · rw [World.putObj_heap_other (fun e => hnr (by rw [← e]; exact hx))]
      exact hall x (by simp [hx])
    · refine h w' (by simpa using hs) (Calm.trans ⟨rfl, rfl, rfl⟩ hcalm) fun c hc => ?_
      rw [hw' c (fun hx => hc (by simp [hx]))]
      exact World.putObj_heap_other (fun e => hc (by simp [e]))

/-- The world has grown, and what was there is as it was. -/
def Grew (w w' : World) : Prop := Calm w w' ∧ w.heap.size ≤ w'.heap.size ∧ ∀ c, c < w.heap.size → w'.heap[c]? = w.heap[c]?

/-- What is known ahead is so. -/
def KnownOk (P : Program) (K : Known) : Prop := ∀ k args v, K k args = some v → (∀ f g, VRel f g v v) ∧ (∀ a ∈ args, plain a = true) ∧ ∀ w, Invokes P (.func (.func k) #[] #[]) args w fun v' w' => v' = v ∧ Grew w w'

theorem knownOk_none : KnownOk P (fun _ _ => none) := fun _ _ _ h => by cases h

theorem Inj.grew (h : Inj f g s w) {w' : World} (hw : Grew w w') : Inj f g s w' ∧ Keep f g s w f g s w' := by
  obtain ⟨h1, h2, h3⟩ := hw
  constructor
  · refine ⟨h.dom, fun b p k a c d => (h.blk b p k a c d).mono (ext_refl _) (ext_refl _) (h3 _ (h.blk b p k a c d).lt), h.sep, fun l m hl => ?_, h.lsep⟩
    obtain ⟨r, x1, x2⟩ := h.loop l m hl
    exact ⟨r, x1, x2.mono (ext_refl _) (ext_refl _) (h3 _ x2.lt)⟩
  · exact { h.keep with calm := h1, heap := h2, keepC := fun c hc _ _ => h3 c hc }

theorem plains_rel : ∀ {l l' : List Value}, VsRel f g l l' → (∀ a ∈ l, plain a = true) → l' = l
  | [], _, h, _ => h.of_nil
  | a :: l, _, h, hp => by
    obtain ⟨v', m', rfl, hv, hm⟩ := h.of_cons
    rw [plain_rel hv (hp a (by simp)), plains_rel hm fun x hx => hp x (by simp [hx])]

theorem Invokes.mono {tv : Value} {args : List Value} {R R' : Value → World → Prop} (h : Invokes P tv args w R) (hR : ∀ v w', R v w' → R' v w') : Invokes P tv args w R' := by
  unfold Invokes at *
  split at h
  · rcases h with h | ⟨h0, h1, v, w', h2, h3⟩
    · exact .inl ⟨h.1, CallsIn.mono h.2 fun e w' he => let ⟨v, a, b⟩ := he; ⟨v, a, hR v w' b⟩⟩
    · exact .inr ⟨h0, h1, v, w', h2, hR _ _ h3⟩
  · obtain ⟨fn, tmps, assign, body, h1, h2⟩ := h
    exact ⟨fn, tmps, assign, body, h1, RoundIn.mono h2 fun e w' he => let ⟨v, a, b⟩ := he; ⟨v, a, hR v w' b⟩⟩
  · exact h.elim

theorem known_some {K : Known} {tv : Value} {args : List Value} {v : Value} (h : known K tv args = some v) : ∃ k, tv = .func (.func k) #[] #[] ∧ K k args = some v := by
  unfold known at h
  split at h
  · rename_i k a b
    split at h
    · rename_i hab
      simp only [Bool.and_eq_true, Array.isEmpty_iff] at hab
      obtain ⟨rfl, rfl⟩ := hab
      exact ⟨k, rfl, h⟩
    · cases h
  · cases h

theorem inv_sim (hF : Fit P) {K : Known} (hK : KnownOk P K) : ∀ n, CallSim P (inv P K n) := by
  intro n
  induction n with
  | zero => intro tv args s v s' h; simp [inv] at h
  | succ n ih =>
    intro tv args s v s' h f g w tv' args' htv hargs hi
    simp only [inv] at h
    split at h
    · rename_i u hu
      simp only [Option.some.injEq, Prod.mk.injEq] at h
      obtain ⟨rfl, rfl⟩ := h
      obtain ⟨k, rfl, hk⟩ := known_some hu
      obtain ⟨h1, h2, h3⟩ := hK k args u hk
      have htv' : tv' = .func (.func k) #[] #[] := by
        cases htv with
        | plain hp => simp [splain] at hp
        | @func _ _ _ fa' fb' e1 e2 _ _ =>
          have e3 : fa' = #[] := Array.size_eq_zero_iff.1 e1.symm
          have e4 : fb' = #[] := Array.size_eq_zero_iff.1 e2.symm
          rw [e3, e4]
      rw [htv', plains_rel hargs h2]
      refine (h3 w).mono fun v' w' hw => ?_
      obtain ⟨rfl, hw⟩ := hw
      obtain ⟨i1, k1⟩ := hi.grew hw
      exact ⟨f, g, k1, i1, h1 f g⟩
    rename_i hkn
    clear hkn
    split at h
    · rename_i k fa fb
      cases htv with
      | plain hp => simp [splain] at hp
      | @func _ _ _ fa' fb' e1 e2 h1 h2 =>
        split at h
        · rename_i fn hfn
          split at h
          · rename_i c hbody
            obtain ⟨hok, hname⟩ := hF.funcs k fn c hfn hbody
            have hxs : VsRel f g (fa.toList ++ args ++ fb.toList) (((fa' ++ args'.toArray) ++ fb').toList) := by
              simpa using (VsRel.append (VsRel.append ⟨by simpa using e1, h1⟩ hargs) ⟨by simpa using e2, h2⟩ : VsRel f g (fa.toList ++ args ++ fb.toList) (fa'.toList ++ args' ++ fb'.toList))
            refine .inl ⟨?_, ?_⟩
            · simp [callFunc, hfn, hbody]
              exact beq_eq_false_iff_ne.1 hname
            · refine callsIn_of_wp_marks hfn hbody trivial ?_
              have hstart : At f g s w (fa.toList ++ args ++ fb.toList ++ List.replicate (fn.ntmps - (fa.toList ++ args ++ fb.toList).length) undef)
                  { tmps := ((fa' ++ args'.toArray) ++ fb') ++ Array.replicate (fn.ntmps - ((fa' ++ args'.toArray) ++ fb').size) undef, defers := [] } w.heap.size none := by
                refine ⟨?_, hi, ⟨[], rfl, List.nodup_nil, fun r hr => by cases hr⟩, Nat.le_refl _, fun _ => rfl, fun m hm => by cases hm⟩
                have hl := hxs.1
                have : (fa.toList ++ args ++ fb.toList).length = ((fa' ++ args'.toArray) ++ fb').size := by simpa using hl
                rw [this]
                simpa using hxs.append (VsRel.replicate (VRel.undef' undef) _)
              have finish : ∀ (e : AExit) (fr' : Fr) (s1 : St) (v0 : Value), (e = .normal ∨ e = .ret) → code P (inv P K n) n c (fa.toList ++ args ++ fb.toList ++ List.replicate (fn.ntmps - (fa.toList ++ args ++ fb.toList).length) undef) s = some (e, fr', s1) →
                  aresults P fn fr' s1 = some v0 → c.wpIn Fence.wide 0 P (bodyPostM Fence.wide 0 P fn (fun e w' => ∃ v', e = .returned v' ∧ ∃ f' g', Keep f g s w f' g' s1 w' ∧ Inj f' g' s1 w' ∧ VRel f' g' v0 v'))
                    { tmps := ((fa' ++ args'.toArray) ++ fb') ++ Array.replicate (fn.ntmps - ((fa' ++ args'.toArray) ++ fb').size) undef, defers := [] } w := by
                intro e fr' s1 v0 he hcode hres
                refine wpIn_mono (code_sim hF.mixed ih n c _ _ _ _ _ hcode hok f g _ w _ none hstart) ?_
                rintro e' a' w' ⟨rfl, ⟨f', g', k1, i1, r1⟩, ⟨rs, m1, m2, m3⟩, _⟩
                have hl : LeavesInM Fence.wide 0 P fn a'.tmps (fun e w' => ∃ v', e = .returned v' ∧ ∃ f' g', Keep f g s w f' g' s1 w' ∧ Inj f' g' s1 w' ∧ VRel f' g' v0 v') a'.defers .returning w' := by
                  rw [m1]
                  refine leaves_marks rs w' m2 (fun r hr => (m3 r hr).2) fun w2 hsz hcalm hw2 => ?_
                  have i2 : Inj f' g' s1 w2 := by
                    refine ⟨i1.dom, fun b p kb a1 a2 a3 => ?_, i1.sep, fun l m hl => ?_, i1.lsep⟩
                    · have hli := i1.blk b p kb a1 a2 a3
                      refine hli.mono (ext_refl _) (ext_refl _) (hw2 _ fun hmem => ?_)
                      obtain ⟨cs, e0, fz, x1, _⟩ := hli
                      rw [(m3 _ hmem).2] at x1; cases x1
                    · obtain ⟨r, x1, x2⟩ := i1.loop l m hl
                      refine ⟨r, x1, x2.mono (ext_refl _) (ext_refl _) (hw2 _ fun hmem => ?_)⟩
                      obtain ⟨t, fn', d, x3, _⟩ := x2
                      rw [(m3 _ hmem).2] at x3; cases x3
                  have k2 : Keep f g s w f' g' s1 w2 := { k1 with
                    calm := k1.calm.trans hcalm
                    heap := by rw [hsz]; exact k1.heap
                    keepC := fun c hc a b => by
                      rw [hw2 c (fun hmem => by have := (m3 c hmem).1; omega)]
                      exact k1.keepC c hc a b }
                  obtain ⟨v', x1, x2⟩ := results_rel (P := P) i2 r1 hres
                  exact ⟨v', x2, v', rfl, f', g', k2, i2, x1⟩
                rcases he with rfl | rfl
                · exact hl
                · exact hl
              split at h
              · rename_i fr' s1 hcode
                simp only [Option.map_eq_some_iff, Prod.mk.injEq] at h
                obtain ⟨v0, hres, rfl, rfl⟩ := h
                exact finish .normal fr' s1 v0 (.inl rfl) hcode hres
              · rename_i fr' s1 hcode
                simp only [Option.map_eq_some_iff, Prod.mk.injEq] at h
                obtain ⟨v0, hres, rfl, rfl⟩ := h
                exact finish .ret fr' s1 v0 (.inr rfl) hcode hres
              · cases h
          · cases h
        · cases h
    · rename_i l fa fb
      cases htv with
      | plain hp => simp [splain] at hp
      | @yield _ m hl =>
        obtain ⟨r, hr, tm, fn, dd, hm, htm, hok1, hok2⟩ := hi.loop l m hl
        simp only [hr] at h
        split at h
        · rename_i hready
          obtain ⟨hrd, hlen⟩ := hready
          split at h
          · rename_i fr1 s1 hassign
            split at h
            · rename_i r1 hr1
              split at h
              · rename_i hrd1
                split at h
                · rename_i e fr2 s2 hbody
                  split at h
                  · rename_i r2 hr2
                    simp only [Option.some.injEq, Prod.mk.injEq] at h
                    obtain ⟨rfl, rfl⟩ := h
                    have hsz : (#[] ++ args'.toArray).size = r.params.size := by have := hargs.1; simp; omega
                    refine ⟨fn, _, r.assign, r.body, run_yield hm hsz, roundIn_of_wpIn trivial ?_⟩
                    have hz : ((r.params.zip (#[] ++ args'.toArray)).foldl (fun tmps (x : Tmp × Value) => tmps.setIfInBounds x.1 x.2) tm).toList = (r.params.toList.zip args').foldl (fun fr x => fr.set x.1 x.2) tm.toList := by
                      rw [← Array.foldl_toList]
                      have e1 : (r.params.zip (#[] ++ args'.toArray)).toList = r.params.toList.zip args' := by simp
                      rw [e1]
                      generalize r.params.toList.zip args' = zs
                      have : ∀ (zs : List (Tmp × Value)) (A : Array Value), (zs.foldl (fun tmps (x : Tmp × Value) => tmps.setIfInBounds x.1 x.2) A).toList = zs.foldl (fun fr x => fr.set x.1 x.2) A.toList := by
                        intro zs
                        induction zs with
                        | nil => intro A; rfl
                        | cons z zs ihz => intro A; simp only [List.foldl_cons]; rw [ihz]; simp
                      exact this zs tm
                    have hz2 : VsRel f g ((r.params.toList.zip args).foldl (fun fr x => fr.set x.1 x.2) r.fr) ((r.params.toList.zip args').foldl (fun fr x => fr.set x.1 x.2) tm.toList) := by
                      have : ∀ (ps : List Tmp) (l l' fr fr' : List Value), VsRel f g l l' → VsRel f g fr fr' → VsRel f g ((ps.zip l).foldl (fun fr x => fr.set x.1 x.2) fr) ((ps.zip l').foldl (fun fr x => fr.set x.1 x.2) fr') := by
                        intro ps
                        induction ps with
                        | nil => intro l l' fr fr' _ h; simpa using h
                        | cons p ps ihp =>
                          intro l l' fr fr' hl h
                          cases l with
                          | nil => rw [hl.of_nil]; simpa using h
                          | cons x l =>
                            obtain ⟨x', l1, rfl, hx, hl1⟩ := hl.of_cons
                            simp only [List.zip_cons_cons, List.foldl_cons]
                            exact ihp _ _ _ _ hl1 (h.set p hx)
                      exact this _ _ _ _ _ hargs htm
                    have hat : At f g s w ((r.params.toList.zip args).foldl (fun fr x => fr.set x.1 x.2) r.fr)
                        { tmps := (r.params.zip (#[] ++ args'.toArray)).foldl (fun tmps (x : Tmp × Value) => tmps.setIfInBounds x.1 x.2) tm, defers := [] } w.heap.size (some m) := by
                      refine ⟨by rw [hz]; exact hz2, hi, ⟨[], rfl, List.nodup_nil, fun r hr => by cases hr⟩, Nat.le_refl _, fun _ => rfl, fun m' hm' => ?_⟩
                      cases hm'
                      exact ⟨l, hl⟩
                    refine wpIn_mono (code_sim hF.mixed ih n r.assign _ _ _ _ _ hassign hok1 f g _ w _ (some m) hat) ?_
                    rintro e1 a1 w1 hp
                    obtain ⟨f1, g1, k1, ha1⟩ := hat.of_post hp
                    obtain ⟨rfl, _⟩ := hp
                    have hg1 := k1.eg _ _ hl
                    obtain ⟨r1', hr1', tm1, fn1, dd1, hm1, htm1, hok11⟩ := ha1.inj.loop l m hg1
                    rw [hr1] at hr1'; cases hr1'
                    obtain ⟨i2, k2⟩ := ha1.inj.setLoop (w' := w1.putObj m (.loop { state := .busy, pending := r1.pending, fn := fn1, tmps := tm1, params := r1.params, assign := r1.assign, body := r1.body, defers := dd1 })) (st := .busy) (pe := r1.pending) hg1 hr1 hm1 htm1 hok11 rfl ⟨rfl, rfl, rfl⟩
                    refine ⟨_, run_beginRound hm1 hrd1, ?_⟩
                    have hat2 : At f1 g1 (s1.setLoop l { r1 with state := .busy }) (w1.putObj m (.loop { state := .busy, pending := r1.pending, fn := fn1, tmps := tm1, params := r1.params, assign := r1.assign, body := r1.body, defers := dd1 })) fr1 a1 w.heap.size (some m) :=
                      ⟨ha1.fr, i2, ha1.marks.keep k2 ha1.inj, Nat.le_trans ha1.low k2.heap, ha1.idle, fun m' hm' => by cases hm'; exact ⟨l, hg1⟩⟩
                    refine wpIn_mono (code_sim hF.mixed ih n r.body _ _ _ _ _ hbody hok2 f1 g1 a1 _ _ (some m) hat2) ?_
                    rintro e3 a3 w3 ⟨he3, ⟨f3, g3, k3, i3, _⟩, _⟩
                    have hg3 := k3.eg _ _ hg1
                    obtain ⟨r2', hr2', tm2, fn2, dd2, hm2, htm2, hok22⟩ := i3.loop l m hg3
                    rw [hr2] at hr2'; cases hr2'
                    have hend : ∀ jump, jump = pendingOf e → ∃ v w4, (Instr.endRound m jump).run P w3 = .ok v w4 ∧ ∃ v', Ending.returned v = .returned v' ∧ ∃ f' g', Keep f g s w f' g' (s2.setLoop l { r2 with state := if (pendingOf e).isNone then .ready else .done, pending := pendingOf e }) w4 ∧
                        Inj f' g' (s2.setLoop l { r2 with state := if (pendingOf e).isNone then .ready else .done, pending := pendingOf e }) w4 ∧ VRel f' g' (.bool (pendingOf e).isNone) v' := by
                      rintro jump rfl
                      obtain ⟨i4, k4⟩ := i3.setLoop (w' := w3.putObj m (.loop { state := if (pendingOf e).isNone then .ready else .done, pending := pendingOf e, fn := fn2, tmps := tm2, params := r2.params, assign := r2.assign, body := r2.body, defers := dd2 }))
                        (st := if (pendingOf e).isNone then .ready else .done) (pe := pendingOf e) hg3 hr2 hm2 htm2 hok22 rfl ⟨rfl, rfl, rfl⟩
                      exact ⟨_, _, run_endRound _ hm2, _, rfl, f3, g3, k1.trans (k2.trans (k3.trans k4)), i4, .plain rfl⟩
                    cases e with
                    | normal => subst he3; exact hend none rfl
                    | ret => subst he3; exact hend (some .ret) rfl
                    | exit id => subst he3; exact hend (some (.exit id)) rfl
                  · cases h
                · cases h
              · cases h
            · cases h
          · cases h
        · cases h
    · cases h
end
end Go.Abs
