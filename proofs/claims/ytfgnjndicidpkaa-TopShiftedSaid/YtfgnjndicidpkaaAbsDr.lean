/- A drawn region in which readings and calls are not all in order: what was read stays so. -/
import Derived.Test.YtfgnjndicidpkaaAbsStep
namespace Go.Abs

def ReadsOk (P : Program) : List (Nat × Op × Fr × Value) → List (Nat × (St → Prop)) → Prop
  | [], [] => True
  | (i, o, fr, v) :: l, (j, p) :: m => i = j ∧ (∀ s', p s' → stable P s' o fr v = true) ∧ ReadsOk P l m
  | _, _ => False

/-- A reading at i: each hard operation so far is ordered ahead of it, or the store ahead of that operation says the same. -/
def HOk (ops : Array Oper) (i : Nat) (p : St → Prop) : List (Nat × St) → Prop
  | [] => True
  | (j, s) :: l => (ordered (Region.before ops) j i = true ∨ p s) ∧ HOk ops i p l
/-- A hard operation at i: each reading so far is ordered ahead of it, or the store behind it says the same. -/
def ROk (ops : Array Oper) (i : Nat) (s' : St) : List (Nat × (St → Prop)) → Prop
  | [] => True
  | (j, p) :: l => (ordered (Region.before ops) j i = true ∨ p s') ∧ ROk ops i s' l

section
variable {P : Program} {K : Known} {n : Nat} {k : Kn} {s : St} {ops : Array Oper} {l : List Oper} {o : Oper} {Q : Fr → St → Prop} {d : Option Tmp}

def We (P : Program) (K : Known) (n : Nat) (ops : Array Oper) (base : Nat) (hs : List (Nat × St)) (rs : List (Nat × (St → Prop))) (i : Nat) (l : List Oper) (k : Kn) (s : St) (Q : Fr → St → Prop) : Prop :=
  ∀ fr reads, Knows n fr k → ReadsOk P reads rs → WpDraw P K ops base i l fr s hs reads Q

variable {base i : Nat} {hs : List (Nat × St)} {rs : List (Nat × (St → Prop))}

theorem We.nil (h : ∀ fr, Knows n fr k → Q fr s) : We P K n ops base hs rs i [] k s Q := fun _ _ hf _ => ⟨0, _, _, rfl, h _ hf⟩

theorem We.no {d : Tmp} (hw : kwanted ops o k = some false) (he : o.dst = some d) (hd : Nat.blt d n = true) (h : We P K n ops base hs rs (i + 1) l ((d, skipped) :: k) s Q) : We P K n ops base hs rs i (o :: l) k s Q := fun fr reads hf h2 => by
  obtain ⟨m, fr', s2, h3, h4⟩ := h _ reads (hf.put (d := some d) (dstOk_lt (blt_ok hd))) h2
  exact ⟨m, fr', s2, by simp only [drawOps, kwanted_wanted hf hw, he, h3], h4⟩

theorem We.q {v : Value} {d : Tmp} (hw : kwanted ops o k = some true) (he : o.dst = some d) (hd : Nat.blt d n = true) (h0 : Qk P n k o.op v) (h : We P K n ops base hs rs (i + 1) l ((d, v) :: k) s Q) : We P K n ops base hs rs i (o :: l) k s Q := fun fr reads hf h2 => by
  obtain ⟨m, fr', s2, h3, h4⟩ := h _ reads (hf.put (d := some d) (dstOk_lt (blt_ok hd))) h2
  exact ⟨m, fr', s2, by simp only [drawOps, kwanted_wanted hf hw, h0.1, h0.2 fr hf, he, h3], h4⟩

theorem We.b {c : Bool} {d : Tmp} (hw : kwanted ops o k = some true) (he : o.dst = some d) (hd : Nat.blt d n = true) (h0 : Qk P n k o.op (.bool c)) (h : ∀ b, c = b → We P K n ops base hs rs (i + 1) l ((d, .bool b) :: k) s Q) : We P K n ops base hs rs i (o :: l) k s Q := We.q hw he hd h0 (h c rfl)

theorem stable_of {s' : St} {fr : Fr} {v : Value} {op : Op} (hf : Knows n fr k) (h : Rk P n k s' op v) (hs : same v v = true) : stable P s' op fr v = true := by
  unfold stable
  rw [h.2 fr hf]
  exact hs

theorem We.r {v : Value} {d : Tmp} (p : St → Prop) (hw : kwanted ops o k = some true) (he : o.dst = some d) (hd : Nat.blt d n = true) (h0 : Rk P n k s o.op v) (hp : ∀ s', p s' → Rk P n k s' o.op v ∧ same v v = true) (ho : HOk ops i p hs) (h : We P K n ops base hs ((i, p) :: rs) (i + 1) l ((d, v) :: k) s Q) :
    We P K n ops base hs rs i (o :: l) k s Q := fun fr reads hf h2 => by
  obtain ⟨m, fr', s2, h3, h4⟩ := h _ ((i, o.op, fr, v) :: reads) (hf.put (d := some d) (dstOk_lt (blt_ok hd))) ⟨rfl, fun s' hs' => stable_of hf (hp s' hs').1 (hp s' hs').2, h2⟩
  refine ⟨m, fr', s2, ?_, h4⟩
  have hall : (hs.all fun h => ordered (Region.before ops) h.1 i || stable P h.2 o.op fr v) = true := by
    clear h h3
    induction hs with
    | nil => rfl
    | cons x hs ih =>
      obtain ⟨j, sx⟩ := x
      obtain ⟨h5, h6⟩ := ho
      rw [List.all_cons, ih h6, Bool.and_true]
      rcases h5 with h5 | h5
      · simp [h5]
      · simp [stable_of hf (hp sx h5).1 (hp sx h5).2]
  rcases h0.1 with hc | hc <;> simp only [drawOps, kwanted_wanted hf hw, hc, h0.2 fr hf, hall, if_true, he, h3]

/-- A reading that is ordered behind all hard operations so far, and ahead of all that follow. -/
theorem We.r0 {v : Value} {d : Tmp} (hw : kwanted ops o k = some true) (he : o.dst = some d) (hd : Nat.blt d n = true) (h0 : Rk P n k s o.op v) (ho : HOk ops i (fun _ => False) hs) (h : We P K n ops base hs ((i, fun _ => False) :: rs) (i + 1) l ((d, v) :: k) s Q) :
    We P K n ops base hs rs i (o :: l) k s Q := We.r _ hw he hd h0 (fun _ h => h.elim) ho h

/-- A cell is read. -/
theorem We.cell {t : TypeId} {x : Operand} {b off m : Nat} {cs : List Value} {md : Mode} {v : Value} {d : Tmp} (hw : kwanted ops o k = some true) (he : o.dst = some d) (hd : Nat.blt d n = true) (hop : o.op = .load t x) (hx : kev k x = some (.pointer (some ⟨b, off, none⟩))) (hsh : shapeOf P t = some (false, m))
    (hg : s.get b = some ⟨cs, md⟩) (hm : md ≠ .dead) (hc : cs[off]? = some v) (hsame : same v v = true) (ho : HOk ops i (fun s' => ∃ cs md, s'.get b = some ⟨cs, md⟩ ∧ md ≠ .dead ∧ cs[off]? = some v) hs)
    (h : We P K n ops base hs ((i, fun s' => ∃ cs md, s'.get b = some ⟨cs, md⟩ ∧ md ≠ .dead ∧ cs[off]? = some v) :: rs) (i + 1) l ((d, v) :: k) s Q) :
    We P K n ops base hs rs i (o :: l) k s Q := We.r _ hw he hd (hop ▸ Rk.cell hx hsh hg hm hc) (fun _ ⟨_, _, h1, h2, h3⟩ => ⟨hop ▸ Rk.cell hx hsh h1 h2 h3, hsame⟩) ho h

/-- A whole block is read. -/
theorem We.cells {t : TypeId} {x : Operand} {b off m : Nat} {cs : List Value} {md : Mode} {d : Tmp} (hw : kwanted ops o k = some true) (he : o.dst = some d) (hd : Nat.blt d n = true) (hop : o.op = .load t x) (hx : kev k x = some (.pointer (some ⟨b, off, none⟩))) (hsh : shapeOf P t = some (true, m))
    (hg : s.get b = some ⟨cs, md⟩) (hm : md ≠ .dead) (hc : off + m ≤ cs.length) (hsame : sames cs cs = true) (ho : HOk ops i (fun s' => s'.get b = some ⟨cs, md⟩) hs)
    (h : We P K n ops base hs ((i, fun s' => s'.get b = some ⟨cs, md⟩) :: rs) (i + 1) l ((d, .agg ((cs.drop off).take m).toArray) :: k) s Q) :
    We P K n ops base hs rs i (o :: l) k s Q := We.r _ hw he hd (hop ▸ Rk.cells hx hsh hg hm hc) (fun _ h1 => ⟨hop ▸ Rk.cells hx hsh h1 hm hc, by
      have key : ∀ (l : List Value), sames l l = true → ∀ j, sames (l.drop j) (l.drop j) = true := by
        intro l
        induction l with
        | nil => intro _ j; simp [sames]
        | cons a l ih =>
          intro h2 j
          simp only [sames, Bool.and_eq_true] at h2
          cases j with
          | zero => simp [sames, h2.1, h2.2]
          | succ j => simpa using ih h2.2 j
      have key2 : ∀ (l : List Value), sames l l = true → ∀ j, sames (l.take j) (l.take j) = true := by
        intro l
        induction l with
        | nil => intro _ j; simp [sames]
        | cons a l ih =>
          intro h2 j
          simp only [sames, Bool.and_eq_true] at h2
          cases j with
          | zero => simp [sames]
          | succ j => simp [sames, h2.1, ih h2.2 j]
      simp only [same]
      exact key2 _ (key _ hsame _) _⟩) ho h

theorem We.f {cs : List Value} {mk : Nat → Value} {d : Tmp} (hw : kwanted ops o k = some true) (he : o.dst = some d) (hd : Nat.blt d n = true) (h0 : Fk P n k o.op cs mk) (h : We P K n ops base hs rs (i + 1) l ((d, mk (base + i)) :: k) (s.set (base + i) ⟨cs, .rw⟩) Q) :
    We P K n ops base hs rs i (o :: l) k s Q := fun fr reads hf h2 => by
  obtain ⟨m, fr', s2, h3, h4⟩ := h _ reads (hf.put (d := some d) (dstOk_lt (blt_ok hd))) h2
  exact ⟨m, fr', s2, by simp only [drawOps, kwanted_wanted hf hw, h0.1, h0.2 fr hf, he, h3], h4⟩

theorem hord_all : ∀ {hs : List (Nat × St)}, HOk ops i (fun _ => False) hs → (hs.all fun h => ordered (Region.before ops) h.1 i) = true
  | [], _ => rfl
  | (j, sx) :: hs, h => by
    rw [List.all_cons, hord_all h.2, Bool.and_true]
    exact h.1.resolve_right id

theorem rok_all {s' : St} : ∀ {reads : List (Nat × Op × Fr × Value)} {rs : List (Nat × (St → Prop))}, ReadsOk P reads rs → ROk ops i s' rs → (reads.all fun r => ordered (Region.before ops) r.1 i || stable P s' r.2.1 r.2.2.1 r.2.2.2) = true
  | [], _, _, _ => rfl
  | (j, o, fr, v) :: l, [], h, _ => h.elim
  | (j, o, fr, v) :: l, (j', p) :: m, h, h2 => by
    obtain ⟨rfl, h3, h4⟩ := h
    rw [List.all_cons, rok_all h4 h2.2, Bool.and_true]
    rcases h2.1 with h5 | h5
    · simp [h5]
    · simp [h3 _ h5]

theorem We.h {v : Value} {s' : St} (hw : kwanted ops o k = some true) (he : o.dst = d) (hd : dstOk n d = true) (h0 : Hk P n k s o.op v s') (ho : HOk ops i (fun _ => False) hs) (ho2 : ROk ops i s' rs)
    (h : We P K n ops base ((i, s) :: hs) rs (i + 1) l (kput k d v) s' Q) : We P K n ops base hs rs i (o :: l) k s Q := fun fr reads hf h2 => by
  obtain ⟨m, fr', s2, h3, h4⟩ := h _ reads (hf.put (dstOk_lt hd)) h2
  refine ⟨m, fr', s2, ?_, h4⟩
  simp only [drawOps, kwanted_wanted hf hw, h0.1, h0.2 fr hf, hord_all ho, rok_all h2 ho2, if_true, he, h3]

theorem We.c {fv : Value} {vs : List Value} (hw : kwanted ops o k = some true) (he : o.dst = d) (hd : dstOk n d = true) (h0 : Ck n k o.op fv vs) (ho : HOk ops i (fun _ => False) hs)
    (h : Ev P K fv vs s fun r s' => ROk ops i s' rs ∧ We P K n ops base ((i, s) :: hs) rs (i + 1) l (kput k d r) s' Q) : We P K n ops base hs rs i (o :: l) k s Q := fun fr reads hf h2 => by
  obtain ⟨m, v, s', h5, h7, h6⟩ := h
  obtain ⟨m2, fr', s2, h3, h4⟩ := h6 _ reads (hf.put (dstOk_lt hd)) h2
  refine ⟨max m m2, fr', s2, ?_, h4⟩
  have := inv_mono (Nat.le_max_left m m2) _ _ _ _ h5
  simp only [drawOps, kwanted_wanted hf hw, h0.1, h0.2 fr hf, this, hord_all ho, rok_all h2 h7, if_true, he]
  exact draw_up (Nat.le_max_right m m2) h3

variable {R : AExit → Fr → St → Prop}

theorem We.next {c : Code} (h : Wc P K n c k s R) : We P K n ops base hs rs i [] k s (nextly P K c R) := We.nil h

theorem Wc.drawE0 {id : Nat} {c : Code} (h0 : room ops.toList = 0) (h : We P K n ops s.size [] [] 0 ops.toList k s (nextly P K c R)) : Wc P K n (.seq (.region id ops true) c) k s R := fun fr hf =>
  Wp.seq (Wp.draw (by rw [h0]; exact h fr [] hf trivial))
theorem Wc.drawE {id : Nat} {c : Code} (h : We P K n ops s.size [] [] 0 ops.toList k (reserve s (room ops.toList)) (nextly P K c R)) : Wc P K n (.seq (.region id ops true) c) k s R := fun fr hf =>
  Wp.seq (Wp.draw (h fr [] hf trivial))
end
end Go.Abs
