/- Blocks that are mapped, filled or brought back in the middle of a drawn region. -/
import Derived.Test.YtfgnjndicidpkaaAbsDraw
namespace Go.Abs
section
variable {P : Program} {f f0 : FMap} {g g0 : LMap} {s s0 s1 : St} {w w0 w' : World} {fr : Fr}

/-- A block that leads nowhere yet gets its place. -/
theorem Inj.map (h : Inj f g s w) {b : Nat} {k : Blk} {cs cs' : List Value} {e : TypeId} {p : Place} (hb : b < s.size) (hf : f b = none) (hk : s.get b = some k) (hm : k.mode ≠ .dead → k = ⟨cs, .rw⟩) (hcs : VsRel f g cs cs')
    (hp : p.block = w.heap.size) (hp1 : p.off = 0) (hp2 : p.grown = false) : Inj (put f b p) g s (w.alloc (.cells cs'.toArray e)) := by
  have he : Ext f (put f b p) := ext_put _ hf
  refine ⟨?_, ?_, ?_, ?_, h.lsep⟩
  · intro c q hc
    by_cases hcb : c = b
    · subst hcb; exact hb
    · rw [put_other f _ hcb] at hc; exact h.dom c q hc
  · intro c q j hc hj hd
    by_cases hcb : c = b
    · subst hcb
      rw [put_same] at hc; cases hc
      rw [hk] at hj; cases hj
      have hk' := hm hd
      subst hk'
      refine ⟨cs'.toArray, e, (0, 0), by rw [hp]; exact heap_alloc_eq _ _, fun _ => rfl, (fun hg => by rw [hp2] at hg; cases hg), (fun n hn => by cases hn), fun i hi => ?_⟩
      have hi' : i < cs'.length := hcs.1 ▸ hi
      refine ⟨cs'[i], by rw [hp1]; simp [hi'], ?_⟩
      have := (hcs.2 i).mono he (ext_refl g)
      simpa [List.getD, hi'] using this
    · rw [put_other f _ hcb] at hc
      exact (h.blk c q j hc hj hd).mono he (ext_refl _) (heap_alloc_lt _ _ (h.blk c q j hc hj hd).lt)
  · intro c d q r k1 j1 hcd hc hd hk1 hj1 hw hdd
    have hk1d : k1.mode ≠ .dead := fun e => by rw [e] at hw; cases hw
    by_cases hcb : c = b
    · subst hcb
      have hdb : d ≠ c := fun e => hcd e.symm
      rw [put_same] at hc; cases hc
      rw [put_other f _ hdb] at hd
      have := (h.blk d r j1 hd hj1 hdd).lt
      omega
    · rw [put_other f _ hcb] at hc
      by_cases hdb : d = b
      · subst hdb
        rw [put_same] at hd; cases hd
        have := (h.blk c q k1 hc hk1 hk1d).lt
        omega
      · rw [put_other f _ hdb] at hd
        exact h.sep c d q r k1 j1 hcd hc hd hk1 hj1 hw hdd
  · intro l m hl
    obtain ⟨r, h1, h2⟩ := h.loop l m hl
    exact ⟨r, h1, h2.mono he (ext_refl _) (heap_alloc_lt _ _ h2.lt)⟩

/-- A dead block is brought back. -/
theorem Inj.revive (h : Inj f g s w) {b : Nat} {p : Place} {cs : List Value} {cs' : Array Value} {e : TypeId} (hf : f b = some p) (hp1 : p.off = 0) (hp2 : p.grown = false)
    (hh : w.heap[p.block]? = some (.cells cs' e (0, 0))) (hcs : VsRel f g cs cs'.toList) (hsep : ∀ c q k, c ≠ b → f c = some q → s.get c = some k → k.mode ≠ .dead → q.block ≠ p.block) : Inj f g (s.set b ⟨cs, .rw⟩) w := by
  have hb := h.dom b p hf
  refine ⟨fun c q hc => by simpa using h.dom c q hc, ?_, ?_, ?_, h.lsep⟩
  · intro c q j hc hj hd
    by_cases hcb : b = c
    · subst hcb
      rw [hf] at hc; cases hc
      rw [St.get_set_same _ _ _ hb] at hj; cases hj
      refine ⟨cs', e, (0, 0), hh, fun _ => rfl, (fun hg => by rw [hp2] at hg; cases hg), (fun n hn => by cases hn), fun i hi => ?_⟩
      have hi' : i < cs'.size := Nat.lt_of_lt_of_eq hi (hcs.1.trans Array.length_toList)
      refine ⟨cs'[i], by rw [hp1]; simp [hi'], ?_⟩
      have := hcs.2 i
      simpa [List.getD, hi'] using this
    · rw [St.get_set_other _ _ _ _ hcb] at hj
      exact h.blk c q j hc hj hd
  · intro c d q r k1 j1 hcd hc hd hk1 hj1 hw hdd
    by_cases hcb : b = c
    · subst hcb
      rw [hf] at hc; cases hc
      rw [St.get_set_other _ _ _ _ hcd] at hj1
      exact fun e => hsep d r j1 hcd.symm hd hj1 hdd e.symm
    · rw [St.get_set_other _ _ _ _ hcb] at hk1
      have hk1d : k1.mode ≠ .dead := fun e => by rw [e] at hw; cases hw
      by_cases hdb : b = d
      · subst hdb
        rw [hf] at hd; cases hd
        exact hsep c q k1 hcd hc hk1 hk1d
      · rw [St.get_set_other _ _ _ _ hdb] at hj1
        exact h.sep c d q r k1 j1 hcd hc hd hk1 hj1 hw hdd
  · intro l m hl; simpa using h.loop l m hl

/-- A block that leads nowhere changes. -/
theorem Inj.setFree (h : Inj f g s w) {b : Nat} {k : Blk} (hf : f b = none) : Inj f g (s.set b k) w := by
  have hne : ∀ c q, f c = some q → b ≠ c := fun c q hc e => by subst e; rw [hf] at hc; cases hc
  refine ⟨fun c q hc => by simpa using h.dom c q hc, ?_, ?_, ?_, h.lsep⟩
  · intro c q j hc hj hd
    rw [St.get_set_other _ _ _ _ (hne c q hc)] at hj
    exact h.blk c q j hc hj hd
  · intro c d q r k1 j1 hcd hc hd hk1 hj1
    rw [St.get_set_other _ _ _ _ (hne c q hc)] at hk1
    rw [St.get_set_other _ _ _ _ (hne d r hd)] at hj1
    exact h.sep c d q r k1 j1 hcd hc hd hk1 hj1
  · intro l m hl; simpa using h.loop l m hl

theorem Keep.map (k : Keep f0 g0 s0 w0 f g s1 w) {b : Nat} {p : Place} {o : Obj} (hb : s0.size ≤ b) (hf : f b = none) (hp : p.block = w.heap.size) : Keep f0 g0 s0 w0 (put f b p) g s1 (w.alloc o) where
  dom := k.dom
  ldom := k.ldom
  ef := fun c q hc => ext_put _ hf c q (k.ef c q hc)
  eg := k.eg
  of := fun c q hc hq => by rw [put_other f _ (by omega)] at hq; exact k.of c q hc hq
  og := k.og
  size := k.size
  nloops := k.nloops
  heap := Nat.le_trans k.heap (by simp)
  keepA := k.keepA
  keepL := k.keepL
  keepC := fun c hc h1 h2 => by rw [heap_alloc_lt _ _ (Nat.lt_of_lt_of_le hc k.heap)]; exact k.keepC c hc h1 h2
  newf := fun c q hc hn => by
    by_cases hcb : c = b
    · subst hcb; rw [put_same] at hc; cases hc; exact .inl (hp ▸ k.heap)
    · rw [put_other f _ hcb] at hc; exact k.newf c q hc hn
  newg := k.newg
  deads := k.deads
  modes := k.modes
  calm := k.calm.trans ⟨rfl, rfl, rfl⟩

theorem Keep.setNew (k : Keep f0 g0 s0 w0 f g s1 w) {b : Nat} {x : Blk} (hb : s0.size ≤ b) : Keep f0 g0 s0 w0 f g (s1.set b x) w :=
  have hne : ∀ {c}, c < s0.size → b ≠ c := fun hc => by omega
  { k with
    size := by simpa using k.size
    nloops := by simpa using k.nloops
    keepA := fun c hc hn => by rw [St.get_set_other _ _ _ _ (hne hc)]; exact k.keepA c hc hn
    keepL := fun l hl hn => by simpa using k.keepL l hl hn
    deads := fun c k0 k1 hc h0 h1 => by rw [St.get_set_other _ _ _ _ (hne hc)] at h1; exact k.deads c k0 k1 hc h0 h1
    modes := fun c k1 hc h1 => by rw [St.get_set_other _ _ _ _ (hne hc)] at h1; exact k.modes c k1 hc h1 }

/-! ### What was read stays so when a dead block is filled -/

theorem get_fill {b c : Nat} {k : Blk} {x : Blk} (hk : s.get b = some k) (hd : k.mode = .dead) {j : Blk} (hj : s.get c = some j) (hn : j.mode ≠ .dead) : (s.set b x).get c = some j := by
  rw [St.get_set_other _ _ _ _ fun e => ?_]
  · exact hj
  · subst e; rw [hk] at hj; cases hj; exact hn hd

theorem cells_fill {b c i n : Nat} {k x : Blk} (hk : s.get b = some k) (hd : k.mode = .dead) {l : List Value} (h : s.cells c i n = some l) : (s.set b x).cells c i n = some l := by
  unfold St.cells at h ⊢
  split at h
  · rename_i cs m hg
    split at h
    · cases h
    · rename_i hm
      rw [get_fill hk hd hg hm]
      simp only [hm, if_false]
      exact h
  · cases h

theorem cell_fill {b c i : Nat} {k x : Blk} (hk : s.get b = some k) (hd : k.mode = .dead) {v : Value} (h : s.cell c i = some v) : (s.set b x).cell c i = some v := by
  unfold St.cell at h ⊢
  split at h
  · rename_i cs m hg
    split at h
    · cases h
    · rename_i hm
      rw [get_fill hk hd hg hm]
      simp only [hm, if_false]
      exact h
  · cases h

theorem exactCap_fill {b c : Nat} {k x : Blk} (hk : s.get b = some k) (hd : k.mode = .dead) {v : Option Nat} (h : exactCap s c = some v) : exactCap (s.set b x) c = some v := by
  unfold exactCap at h ⊢
  split at h
  · rename_i cs n hg
    rw [get_fill hk hd hg (by simp)]
    exact h
  · cases h
  · rename_i y h1 h2 hg
    have hm : y.mode ≠ .dead := fun e => h2 y.cells (by cases y; simp_all)
    rw [get_fill hk hd hg hm]
    split
    · rename_i a b hx; exact absurd (Option.some.inj hx) (h1 _ _)
    · rename_i a hx; exact absurd (Option.some.inj hx) (h2 _)
    · exact h
    · rename_i hx; cases hx
  · cases h

theorem aread_fill {o : Op} {v : Value} {b : Nat} {k x : Blk} (hk : s.get b = some k) (hd : k.mode = .dead) (h : aread P o fr s = some v) : aread P o fr (s.set b x) = some v := by
  unfold aread at h ⊢
  split at h
  · unfold aload at h ⊢
    split at h
    · split at h
      · rename_i n hs
        simp only [Option.map_eq_some_iff] at h
        obtain ⟨l, h1, h2⟩ := h
        simp only [cells_fill hk hd h1, Option.map_some, h2]
      · exact cell_fill hk hd h
      · cases h
    · cases h
  · unfold aslice at h ⊢
    split at h
    · exact h
    · split at h
      · exact h
      · split at h
        · split at h
          · rename_i h1
            rw [if_pos h1]
            exact h
          · rename_i h1
            rw [if_neg h1]
            split at h
            · rename_i h2; rw [if_pos h2]; exact h
            · rename_i h2
              rw [if_neg h2]
              split at h
              · rename_i h4; rw [if_pos h4]; exact h
              · rename_i h4
                rw [if_neg h4]
                split at h
                · rename_i h3; rw [exactCap_fill hk hd h3]; exact h
                · rename_i h3; rw [exactCap_fill hk hd h3]; exact h
                · cases h
        · cases h
      · cases h
  · cases h

end
end Go.Abs
