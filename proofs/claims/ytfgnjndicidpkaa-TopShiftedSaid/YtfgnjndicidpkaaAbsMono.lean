/- More fuel, the same answer; and what a piece of code comes to, with some fuel. -/
import Derived.Test.YtfgnjndicidpkaaAbsDef
namespace Go.Abs
section
variable {P : Program} {K : Known} {call call' : Value → List Value → St → Option (Value × St)}

/-- What one gives, the other gives. -/
def Gives (call call' : Value → List Value → St → Option (Value × St)) : Prop := ∀ tv args s r, call tv args s = some r → call' tv args s = some r

theorem ahard_mono (h : Gives call call') {o : Op} {fr : Fr} {s : St} {r : Value × St} (hr : ahard P call o fr s = some r) : ahard P call' o fr s = some r := by
  unfold ahard at hr ⊢
  split at hr
  · exact hr
  · exact h _ _ _ _ hr
  · exact hr
  · exact hr
  · exact hr
  · cases hr

theorem aop_mono (h : Gives call call') {o : Op} {fr : Fr} {s : St} {r : Value × St} (hr : aop P call o fr s = some r) : aop P call' o fr s = some r := by
  unfold aop at hr ⊢
  split at hr
  · exact hr
  · exact hr
  · exact hr
  · exact hr
  · exact ahard_mono h hr

theorem seqOps_mono (h : Gives call call') {ops : Array Oper} : ∀ {l : List Oper} {fr : Fr} {s : St} {r : Fr × St}, seqOps P call ops l fr s = some r → seqOps P call' ops l fr s = some r
  | [], _, _, _, hr => hr
  | o :: l, fr, s, r, hr => by
    simp only [seqOps] at hr ⊢
    split at hr
    · split at hr
      · rename_i v s' hv
        simp only [aop_mono h hv]
        exact seqOps_mono h hr
      · cases hr
    · exact seqOps_mono h hr
    · cases hr

theorem drawOps_mono (h : Gives call call') {ops : Array Oper} {base : Nat} : ∀ {l : List Oper} {i : Nat} {fr : Fr} {s : St} {hist : List (Nat × St)} {reads : List (Nat × Op × Fr × Value)} {r : Fr × St},
    drawOps P call ops base i l fr s hist reads = some r → drawOps P call' ops base i l fr s hist reads = some r
  | [], _, _, _, _, _, _, hr => hr
  | o :: l, i, fr, s, hist, reads, r, hr => by
    simp only [drawOps] at hr ⊢
    split at hr
    · cases hr
    · exact drawOps_mono h hr
    · split at hr
      · split at hr
        · exact drawOps_mono h hr
        · cases hr
      · split at hr
        · split at hr
          · rename_i hc; rw [if_pos hc]; exact drawOps_mono h hr
          · cases hr
        · cases hr
      · split at hr
        · split at hr
          · rename_i hc; rw [if_pos hc]; exact drawOps_mono h hr
          · cases hr
        · cases hr
      · split at hr
        · exact drawOps_mono h hr
        · cases hr
      · split at hr
        · rename_i hc
          rw [if_pos hc]
          split at hr
          · rename_i v s' hv
            simp only [ahard_mono h hv]
            split at hr
            · rename_i hc2; rw [if_pos hc2]; exact drawOps_mono h hr
            · cases hr
          · cases hr
        · cases hr

theorem iter_mono {body body' : Fr → St → Option (AExit × Fr × St)} (h : ∀ fr s r, body fr s = some r → body' fr s = some r) : ∀ {n m : Nat}, n ≤ m → ∀ {fr : Fr} {s : St} {r : AExit × Fr × St}, iter body n fr s = some r → iter body' m fr s = some r
  | 0, _, _, _, _, _, hr => by cases hr
  | n + 1, 0, hn, _, _, _, _ => by omega
  | n + 1, m + 1, hn, fr, s, r, hr => by
    simp only [iter] at hr ⊢
    split at hr
    · rename_i fr' s' hb
      rw [h _ _ _ hb]
      exact iter_mono h (by omega) hr
    · rename_i x hx
      rw [h _ _ _ hr]
      split
      · rename_i fr' s' he
        simp only [Option.some.injEq] at he
        subst he
        exact absurd hr (hx _ _)
      · rfl

theorem code_mono (h : Gives call call') {n m : Nat} (hn : n ≤ m) : ∀ {c : Code} {fr : Fr} {s : St} {r : AExit × Fr × St}, code P call n c fr s = some r → code P call' m c fr s = some r := by
  intro c
  induction c with
  | skip => intro fr s r hr; exact hr
  | label _ => intro fr s r hr; exact hr
  | region id ops draw =>
    intro fr s r hr
    simp only [code] at hr ⊢
    split at hr
    · rename_i fr' s' hx
      have : (if draw = true then drawOps P call' ops s.size 0 ops.toList fr (reserve s (room ops.toList)) [] [] else seqOps P call' ops ops.toList fr s) = some (fr', s') := by
        split at hx
        · rename_i hd; rw [if_pos hd]; exact drawOps_mono h hx
        · rename_i hd; rw [if_neg hd]; exact seqOps_mono h hx
      rw [this]
      exact hr
    · cases hr
  | seq a b iha ihb =>
    intro fr s r hr
    simp only [code] at hr ⊢
    split at hr
    · rename_i fr' s' hx
      rw [iha hx]
      exact ihb hr
    · rename_i hx
      rw [iha hr]
      split
      · rename_i fr' s' he
        simp only [Option.some.injEq] at he
        subst he
        exact absurd hr (hx _ _)
      · rfl
  | cond c a b iha ihb =>
    intro fr s r hr
    simp only [code] at hr ⊢
    split at hr
    · split at hr
      · rename_i ht; rw [if_pos ht]; exact iha hr
      · rename_i ht; rw [if_neg ht]; exact ihb hr
    · cases hr
  | block id c ih =>
    intro fr s r hr
    simp only [code] at hr ⊢
    split at hr
    · rename_i id' fr' s' hx
      rw [ih hx]
      exact hr
    · rename_i hx
      rw [ih hr]
      split
      · rename_i id' fr' s' he
        simp only [Option.some.injEq] at he
        subst he
        exact absurd hr (hx _ _ _)
      · rfl
  | loop c ih =>
    intro fr s r hr
    simp only [code] at hr ⊢
    exact iter_mono (fun fr s r hb => ih hb) hn hr
  | exit id => intro fr s r hr; exact hr
  | ret => intro fr s r hr; exact hr
  | rangeFunc f ps a b iha ihb =>
    intro fr s r hr
    simp only [code] at hr ⊢
    split at hr
    · split at hr
      · rename_i v s' hx
        rw [h _ _ _ _ hx]
        exact hr
      · cases hr
    · cases hr
  | _ => intro fr s r hr; simp [code] at hr

theorem inv_mono : ∀ {n m : Nat}, n ≤ m → Gives (inv P K n) (inv P K m)
  | 0, _, _, _, _, _, _, hr => by cases hr
  | n + 1, 0, hn, _, _, _, _, _ => by omega
  | n + 1, m + 1, hn, tv, args, s, r, hr => by
    have ih : Gives (inv P K n) (inv P K m) := inv_mono (by omega)
    have hc : ∀ {c : Code} {fr : Fr} {s : St} {r : AExit × Fr × St}, code P (inv P K n) n c fr s = some r → code P (inv P K m) m c fr s = some r := code_mono ih (by omega)
    simp only [inv] at hr ⊢
    split at hr
    · exact hr
    · split at hr
      · split at hr
        · split at hr
          · split at hr
            · rename_i hx; rw [hc hx]; exact hr
            · rename_i hx; rw [hc hx]; exact hr
            · cases hr
          · cases hr
        · cases hr
      · split at hr
        · split at hr
          · rename_i hcond
            rw [if_pos hcond]
            split at hr
            · rename_i hx
              rw [hc hx]
              simp only
              split at hr
              · rename_i h1
                split at hr
                · rename_i h2
                  split at hr
                  · rename_i hx2
                    simp only [hc hx2]
                    rw [if_pos h2]
                    exact hr
                  · cases hr
                · cases hr
              · cases hr
            · cases hr
          · cases hr
        · cases hr
      · cases hr

end
end Go.Abs
