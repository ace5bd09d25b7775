/- append. -/
import Derived.Test.YtfgnjndicidpkaaAbsHard
namespace Go.Abs

section
variable {P : Program} {f : FMap} {g : LMap} {s s' : St} {w : World}

theorem zeroCells_size (z : Array Value) (n : Nat) : (Builtin.zeroCells z n).size = n * z.size := by simp [Builtin.zeroCells]

/-- A new block that an append makes, on both sides. -/
theorem grow_rel {s0 : St} (h : Inj f g s0 w) (k : Keep f g s w f g s0 w) {cs cs' : List Value} (hcs : VsRel f g cs cs') {size n cap : Nat} {z : Array Value} {e : TypeId} (hz : z.size = size) (hlen : cs.length = n * size) (hcap : n ≤ cap) {r : Result Value}
    (hr : r = .ok (.slice (some ⟨w.heap.size, 0, none⟩) n cap) (World.alloc { w with drawn := w.drawn + 1 } (.cells (cs'.toArray ++ Builtin.zeroCells z (cap - n)) e))) :
    ∃ v' w' f', r = .ok v' w' ∧ VRel f' g (s0.grow size cs n).1 v' ∧ Inj f' g (s0.grow size cs n).2 w' ∧ Keep f g s w f' g (s0.grow size cs n).2 w' := by
  have h0 : Inj f g s0 { w with drawn := w.drawn + 1 } := h.congr rfl
  have hp : (cs' ++ (Builtin.zeroCells z (cap - n)).toList).length = cap * size := by
    rw [List.length_append, ← hcs.1, hlen, Array.length_toList, zeroCells_size, hz, ← Nat.add_mul, Nat.add_sub_cancel' hcap]
  obtain ⟨h1, h2⟩ := Inj.push h0 hcs (.grown size) e (Builtin.zeroCells z (cap - n)).toList ⟨w.heap.size, 0, true, size, cap * size⟩ rfl rfl (fun _ => ⟨rfl, hp⟩) (fun _ _ => rfl)
  have e1 : (cs' ++ (Builtin.zeroCells z (cap - n)).toList).toArray = cs'.toArray ++ Builtin.zeroCells z (cap - n) := by
    apply Array.ext'
    simp
  rw [e1] at h1 h2
  refine ⟨_, _, _, hr, ?_, h1, k.trans (h2.congr_left rfl ⟨rfl, rfl, rfl⟩)⟩
  have := VRel.slice (f := put f s0.size ⟨w.heap.size, 0, true, size, cap * size⟩) (g := g) (b := s0.size) (off := 0) (len := n) (cap := n) (cap' := cap) (put_same _ _ _) (fun e => by cases e) hcap (fun _ => by simp)
  simpa [St.grow] using this

theorem grown_of_exact {b n : Nat} (h : exactCap s b = some (some n)) : ∃ kc, s.get b = some ⟨kc, .grown n⟩ := by
  unfold exactCap at h
  split at h
  · rename_i kc k hk
    simp only [Option.some.injEq] at h
    subst h
    exact ⟨kc, hk⟩
  · cases h
  · simp at h
  · cases h

theorem splice_append : ∀ (new junk old : List Value), junk.length = new.length → splice (old ++ junk) old.length new = old ++ new
  | [], junk, old, h => by
    have : junk = [] := List.length_eq_zero_iff.1 h
    subst this; simp [splice]
  | v :: new, junk, old, h => by
    cases junk with
    | nil => simp at h
    | cons x junk =>
      simp only [splice]
      have e1 : (old ++ x :: junk).set old.length v = (old ++ [v]) ++ junk := by simp
      have := splice_append new junk (old ++ [v]) (by simpa using h)
      rw [e1]
      simpa using this

/-- A grown block that grows in its place: what is written there. -/
theorem regrow_run (h : Inj f g s w) {b off size : Nat} {p : Place} {kc old new new' : List Value} (hf : f b = some p) (hk : s.get b = some ⟨kc, .grown size⟩)
    (hold : ∀ i, i < old.length → ∃ ds e fz v, w.heap[p.block]? = some (.cells ds e fz) ∧ ds[p.off + off + i]? = some v ∧ VRel f g (old.getD i undef) v) (hnew : VsRel f g new new') (hsc : new.all scalar = true)
    (hroom : p.size = size → p.off + off + (old.length + new.length) ≤ p.room) :
    p.size = size ∧ p.grown = true ∧ ∃ w', (storeCells ⟨p.block, p.off + off + old.length, none⟩ new').run P w = .ok () w' ∧
      Inj (put f s.size { p with off := p.off + off, size := size }) g ((kill s b).push ⟨old ++ new, .grown size⟩) w' ∧
      Keep f g s w (put f s.size { p with off := p.off + off, size := size }) g ((kill s b).push ⟨old ++ new, .grown size⟩) w' := by
  obtain ⟨ds, de, fz, k1, k2, k3, k4, k5⟩ := h.blk b p ⟨kc, .grown size⟩ hf hk (by simp)
  have hgr := k4 _ rfl
  obtain ⟨k6, k7⟩ := k3 hgr
  have hps : p.size = size := by simp at k6; exact k6.symm
  have hfz := k2 rfl
  subst hfz
  have hr := hroom hps
  obtain ⟨w', b1, b2, b3⟩ := run_storeCells P p.block (p.off + off + old.length) de new' 0 w ds k1 (all_scalar_rel hnew hsc) (by rw [← hnew.1]; omega)
  refine ⟨hps, hgr, w', b1, ?_⟩
  refine Inj.regrow h hf hk (ds := (splice ds.toList (p.off + off + old.length) new').toArray) (e := de) (by simp [k7]) (by rw [b2]; rfl) b3 ?_
  have hbase : CellsRel f g (p.off + off) (old ++ List.replicate new.length undef) ds.toList := by
    intro i hi
    simp only [List.length_append, List.length_replicate] at hi
    by_cases hio : i < old.length
    · obtain ⟨ds', e', fz', v, x1, x2, x3⟩ := hold i hio
      rw [k1] at x1; cases x1
      exact ⟨v, by simpa using x2, by simpa [List.getD, List.getElem?_append_left hio] using x3⟩
    · have hlt : p.off + off + i < ds.size := by omega
      refine ⟨ds[p.off + off + i], by simp [hlt], ?_⟩
      have : (old ++ List.replicate new.length undef).getD i undef = undef := by
        rw [List.getD, List.getElem?_append_right (by omega), List.getElem?_replicate]
        split <;> rfl
      rw [this]
      exact VRel.undef' _
  have := hbase.splice (i := old.length) hnew (by simp)
  rw [splice_append new _ old (by simp)] at this
  simpa [Nat.add_assoc] using this

theorem append_run (h : Inj f g s w) {st xt ty : TypeId} {x x' y y' v : Value} (hs : aappend P s st xt x y = some (v, s')) (hx : VRel f g x x') (hy : VRel f g y y') :
    ∃ v' w' f', (Builtin.append_ #[st, xt] ty #[x', y']).run P w = .ok v' w' ∧ VRel f' g v v' ∧ Inj f' g s' w' ∧ Keep f g s w f' g s' w' := by
  unfold aappend at hs
  split at hs
  · cases hs
  · rename_i e size bytes he
    obtain ⟨j, hu, hinf, rfl, rfl⟩ := sliceElem_some he
    split at hs
    · cases hs
    · rename_i new n hsrc
      split at hs
      · cases hs
      · rename_i hcond
        simp only [Classical.not_not] at hcond
        obtain ⟨c1, c2, c3, c4, c5, c6, c7⟩ := hcond
        obtain ⟨z, hz, c5'⟩ := Option.map_eq_some_iff.1 c5
        obtain ⟨d, hxt⟩ := Option.isSome_iff_exists.1 c6
        obtain ⟨src1, src2⟩ := source_rel (P := P) h hsrc hy
        have hzi : isIntType P xt = isIntD d := by unfold isIntType; rw [hxt]
        -- what is appended, on the machine's side
        have hargs : n ≤ 2 ^ 20 → ∃ new' : List Value, VsRel f g new new' ∧ AppArgs P w st xt e j z n y' new'.toArray := by
          intro hn
          cases hd : isIntD d with
          | false =>
            obtain ⟨hsl, l', a1, a2⟩ := src1 (hzi.trans hd)
            exact ⟨l', a1, hu, hinf, hz, c1, hn, .inl ⟨d, hxt, hd, hsl, a2⟩⟩
          | true =>
            obtain ⟨a1, a2, z', a3, a4⟩ := src2 (hzi.trans hd)
            rw [hz] at a3; cases a3
            have hzc : Builtin.zeroCells z.cells n = (copies n z.cells.toList).toArray := range_copies z.cells (by omega) n
            refine ⟨copies n z.cells.toList, by rw [a4]; exact (zero_cells hz).copies n, hu, hinf, hz, c1, hn, .inr ⟨d, hxt, hd, a1, fun h0 => ?_, fun _ => hzc.symm⟩⟩
            rcases Nat.mul_eq_zero.1 h0 with h0 | h0
            · subst h0; rfl
            · omega
        split at hs
        · have hx' : x' = .slice none 0 0 := splain_rel hx rfl
          subst hx'
          split at hs
          · rename_i hn0
            subst hn0
            simp only [Option.some.injEq, Prod.mk.injEq] at hs
            obtain ⟨rfl, rfl⟩ := hs
            obtain ⟨new', a1, a2⟩ := hargs (by omega)
            exact ⟨_, w, f, append_inplace a2 (Nat.le_refl _), .plain rfl, h, h.keep⟩
          · rename_i hn0
            split at hs
            · rename_i hn
              simp only [Option.some.injEq] at hs
              obtain ⟨new', a1, a2⟩ := hargs hn
              obtain ⟨cap, b1, b2⟩ := append_grow (ty := ty) a2 (base := none) (len := 0) (cap := 0) (old := #[]) (by omega) (by omega) c2 (fun w' _ => firstCells_zero _ _ _ _ w')
              simp only [Nat.zero_add] at b1 b2
              have := grow_rel h h.keep a1 (size := j.size) (n := n) (cap := cap) (z := z.cells) (e := e) c5' c4 b1 (r := (Builtin.append_ #[st, xt] ty #[.slice none 0 0, y']).run P w) (by rw [b2]; simp)
              rw [hs] at this
              exact this
            · cases hs
        · rename_i b off sp len cap
          split at hs
          · cases hs
          · rename_i hlen
            simp only [Classical.not_not] at hlen
            obtain ⟨new', a1, a2⟩ := hargs (by omega)
            split at hs
            · rename_i hn0
              subst hn0
              split at hs
              · rename_i hle
                simp only [Option.some.injEq, Prod.mk.injEq] at hs
                obtain ⟨rfl, rfl⟩ := hs
                have hnew : new' = [] := by
                  have := a1.1
                  rw [c4] at this
                  simpa using this.symm
                subst hnew
                have hx' : ∃ q c', x' = .slice (some q) len c' ∧ len ≤ c' := by
                  rcases hx.slice_inv with ⟨p, c', _, _, e, e1, _⟩ | ⟨_, e0, _, p, q, c', _, e, _⟩ | ⟨_, e0, _, q, e⟩
                  · exact ⟨_, _, e, by omega⟩
                  · subst e0; exact ⟨_, _, e, by omega⟩
                  · subst e0; exact ⟨_, _, e, by omega⟩
                obtain ⟨q, c', rfl, hc'⟩ := hx'
                refine ⟨_, w, f, append_inplace a2 (base := some q) (len := len) (cap := c') (by omega), ?_, h, h.keep⟩
                simpa [storeCells] using hx
              · cases hs
            · rename_i hn0
              split at hs
              · rename_i hsp
                subst hsp
                simp only [Option.some.injEq] at hs
                rcases hx.slice_inv with ⟨p, c', _, hne, _⟩ | ⟨hne, _⟩ | ⟨_, e0, e1, q, rfl⟩
                · rcases hne with hne | hne <;> cases hne
                · cases hne
                · subst e0 e1
                  simp only [Nat.zero_add] at *
                  obtain ⟨cap, b1, b2⟩ := append_grow (ty := ty) a2 (base := some q) (len := 0) (cap := 0) (old := #[]) (by omega) (by omega) c2 (fun w' _ => firstCells_zero _ _ _ _ w')
                  simp only [Nat.zero_add] at b1 b2
                  have := grow_rel h h.keep a1 (size := j.size) (n := n) (cap := cap) (z := z.cells) (e := e) c5' c4 b1 (r := (Builtin.append_ #[st, xt] ty #[.slice (some q) 0 0, y']).run P w) (by rw [b2]; simp)
                  rw [hs] at this
                  exact this
              split at hs
              · rename_i hsp2 hsp
                subst hsp
                split at hs
                · rename_i hex
                  simp only [Option.some.injEq] at hs
                  rcases hx.slice_inv with ⟨p, c', _, hne, _⟩ | ⟨_, e0, e1, p, q, c', hp, rfl, hq⟩ | ⟨hne, _⟩
                  · rcases hne with hne | hne <;> cases hne
                  · subst e0 e1
                    simp only [Nat.zero_add] at *
                    obtain ⟨kc, hk⟩ := grown_of_exact hex
                    have hnl : new'.length = n * j.size := by rw [← a1.1]; exact c4
                    by_cases hin : n ≤ c'
                    · rcases hq with ⟨rfl, hroom⟩ | hq
                      · obtain ⟨hps, hgr, w', b1, b2, b3⟩ := regrow_run (P := P) h hp hk (off := off) (old := []) (fun i hi => by simp at hi) a1 c7 (fun hps => by
                          rw [hps] at hroom
                          have hle : n * j.size ≤ c' * j.size := Nat.mul_le_mul_right _ hin
                          simp only [List.length_nil]; omega)
                        have b4 := append_inplace (ty := ty) a2 (base := some ⟨p.block, p.off + off, none⟩) (len := 0) (cap := c') (by omega)
                        simp only [Nat.zero_mul, addr_add, Nat.add_zero, Nat.zero_add] at b4
                        simp only [List.length_nil, Nat.add_zero] at b1
                        rw [b1] at b4
                        simp only [St.grow, Prod.mk.injEq] at hs
                        obtain ⟨rfl, rfl⟩ := hs
                        refine ⟨_, w', _, b4, ?_, b2, b3⟩
                        have := VRel.slice (f := put f s.size { p with off := p.off + off, size := j.size }) (g := g) (b := s.size) (off := 0) (len := n) (cap := n) (cap' := c') (put_same _ _ _) (fun e => by simp [hgr] at e) hin (fun _ => by rw [hps] at hroom; simpa using hroom)
                        simpa [St.grow] using this
                      · omega
                    · obtain ⟨cap, b1, b2⟩ := append_grow (ty := ty) a2 (base := some q) (len := 0) (cap := c') (old := #[]) (by omega) (by omega) c2 (fun w' _ => firstCells_zero _ _ _ _ w')
                      simp only [Nat.zero_add] at b1 b2
                      obtain ⟨h1, h2⟩ := h.killed hp
                      have := grow_rel h1 h2 a1 (size := j.size) (n := n) (cap := cap) (z := z.cells) (e := e) c5' c4 b1 (r := (Builtin.append_ #[st, xt] ty #[.slice (some q) 0 c', y']).run P w) (by rw [b2]; simp)
                      rw [hs] at this
                      exact this
                  · cases hne
                · cases hs
              · rename_i hsp2 hsp
                rcases hx.slice_inv with ⟨p, c', hp, hsp0, rfl, hcc, hcx, hroom⟩ | ⟨e0, _⟩ | ⟨e0, _⟩
                · split at hs
                  · rename_i hle
                    simp only [Option.map_eq_some_iff, Prod.mk.injEq] at hs
                    obtain ⟨s1, hs1, rfl, rfl⟩ := hs
                    rw [show off + len * j.size = off + len * j.size from rfl] at hs1
                    obtain ⟨w', b1, b2, b3⟩ := write_run (P := P) h hp hs1 a1
                    have b4 := append_inplace (ty := ty) a2 (base := some ⟨p.block, p.off + off, none⟩) (len := len) (cap := c') (by omega)
                    simp only [addr_add, Nat.add_assoc] at b4
                    rw [b1] at b4
                    refine ⟨_, w', f, b4, ?_, b2, b3⟩
                    rcases hsp0 with rfl | rfl
                    · exact .slice hp (fun e => hcx (.inr e)) hcc (hroom rfl)
                    · rw [hcx (.inl rfl)]; exact .sliceX hp
                  · rename_i hle
                    split at hs
                    · cases hs
                    · rename_i old hold
                      obtain ⟨kold, hkold, hkd, hlold⟩ := cells_alive hold
                      obtain ⟨old', o1, o2⟩ := run_loadCells_rel (P := P) h hp hold
                      have ofirst : ∀ w', w'.heap = w.heap → (Builtin.firstCells j.size len (.slice (some ⟨p.block, p.off + off, none⟩) len c')).run P w' = .ok old'.toArray w' := fun w' hw => by
                        simp only [Builtin.firstCells]; exact o2 w' hw
                      have growth : ∀ s0, Inj f g s0 w → Keep f g s w f g s0 w → ¬ len + n ≤ c' → s0.grow j.size (old ++ new) (len + n) = (v, s') →
                          ∃ v' w' f', (Builtin.append_ #[st, xt] ty #[.slice (some ⟨p.block, p.off + off, none⟩) len c', y']).run P w = .ok v' w' ∧ VRel f' g v v' ∧ Inj f' g s' w' ∧ Keep f g s w f' g s' w' := by
                        intro s0 h1 h2 hlt heq
                        obtain ⟨cap, b1, b2⟩ := append_grow (ty := ty) a2 (base := some ⟨p.block, p.off + off, none⟩) (len := len) (cap := c') (old := old'.toArray) hlt (by omega) c2 ofirst
                        have := grow_rel h1 h2 (o1.append a1) (size := j.size) (n := len + n) (cap := cap) (z := z.cells) (e := e) c5' (by rw [List.length_append, hlold, c4, Nat.add_mul]) b1 (r := (Builtin.append_ #[st, xt] ty #[.slice (some ⟨p.block, p.off + off, none⟩) len c', y']).run P w) (by rw [b2]; simp)
                        rw [heq] at this
                        exact this
                      split at hs
                      · rename_i hspS
                        simp only [Option.some.injEq] at hs
                        exact growth s h h.keep (by rw [hcx (.inl hspS)]; exact hle) hs
                      · rename_i hspS
                        have hspn : sp = none := by simpa using hspS
                        split at hs
                        · rename_i hex
                          simp only [Option.some.injEq] at hs
                          have hg : p.grown = false := by
                            cases hg : p.grown with
                            | false => rfl
                            | true =>
                              exfalso
                              obtain ⟨_, _, _, _, _, x3, _⟩ := h.blk b p kold hp hkold hkd
                              have := (x3 hg).1
                              obtain ⟨kc, km⟩ := kold
                              simp only at this
                              subst this
                              simp [exactCap, hkold] at hex
                          exact growth s h h.keep (by rw [hcx (.inr hg)]; exact hle) hs
                        · rename_i k hex
                          split at hs
                          · rename_i hks
                            subst hks
                            simp only [Option.some.injEq] at hs
                            obtain ⟨kc, hk⟩ := grown_of_exact hex
                            by_cases hin : len + n ≤ c'
                            · obtain ⟨ds, de, fz, k1, k2, k3, k4, k5⟩ := h.blk b p ⟨kc, .grown j.size⟩ hp hk (by simp)
                              have hgr0 := k4 _ rfl
                              have hroom' := hroom hspn hgr0
                              have hcells : ∀ i, i < old.length → old.getD i undef = kc.getD (off + i) undef ∧ off + i < kc.length := by
                                unfold St.cells at hold
                                simp only [hk] at hold
                                split at hold
                                · cases hold
                                · split at hold
                                  · rename_i hb
                                    simp only [Option.some.injEq] at hold
                                    subst hold
                                    intro i hi
                                    simp only [List.length_take, List.length_drop] at hi
                                    have hi' : i < len * j.size := by omega
                                    exact ⟨by simp [List.getD, hi'], by omega⟩
                                  · cases hold
                              obtain ⟨hps, hgr, w', b1, b2, b3⟩ := regrow_run (P := P) h hp hk (off := off) (old := old) (fun i hi => by
                                obtain ⟨x1, x2⟩ := hcells i hi
                                obtain ⟨u, x3, x4⟩ := k5 (off + i) x2
                                exact ⟨ds, de, fz, u, k1, by rw [Nat.add_assoc]; exact x3, by rw [x1]; exact x4⟩) a1 c7 (fun hps => by
                                rw [hps] at hroom'
                                have : (len + n) * j.size ≤ c' * j.size := Nat.mul_le_mul_right _ hin
                                rw [Nat.add_mul] at this
                                omega)
                              have b4 := append_inplace (ty := ty) a2 (base := some ⟨p.block, p.off + off, none⟩) (len := len) (cap := c') hin
                              rw [hlold] at b1
                              simp only [addr_add] at b4
                              rw [b1] at b4
                              simp only [St.grow, Prod.mk.injEq, size_kill] at hs
                              obtain ⟨rfl, rfl⟩ := hs
                              refine ⟨_, w', _, b4, ?_, b2, b3⟩
                              have := VRel.slice (f := put f s.size { p with off := p.off + off, size := j.size }) (g := g) (b := s.size) (off := 0) (len := len + n) (cap := len + n) (cap' := c') (put_same _ _ _) (fun e => by simp [hgr] at e) hin (fun _ => by rw [hps] at hroom'; simpa using hroom')
                              simpa using this
                            · obtain ⟨h1, h2⟩ := h.killed hp
                              exact growth _ h1 h2 hin hs
                          · cases hs
                        · cases hs
                · exact absurd e0 hsp
                · exact absurd e0 hsp2
        · cases hs

end
end Go.Abs
