/- Searches in rows of arcs; is a network one? -/
import Derived.Test.YtgkmpidihgbkdaaJR
import Derived.Test.YtgkmpidihgbkdaaJB
namespace Go.Proofs.Ytgkmpidihgbkdaa
open Go.Abs
variable {K : Known}

theorem any_false {α : Type} {p : α → Bool} {d : α} {l : List α} (h : ∀ i, i < l.length → p (l.getD i d) = false) : l.any p = false := by
  rw [List.any_eq_false]
  intro x hx
  obtain ⟨i, hi, rfl⟩ := List.getElem_of_mem hx
  have := h i hi
  simpa [List.getD, hi] using this
theorem any_true {α : Type} {p : α → Bool} {d : α} {l : List α} {i : Nat} (hi : i < l.length) (h : p (l.getD i d) = true) : l.any p = true := by
  refine List.any_eq_true.2 ⟨l[i], List.getElem_mem hi, ?_⟩
  simpa [List.getD, hi] using h

theorem c55 (hK : Late K) {v f : Value} {l : List Arc} {p : Arc → Bool} {s : St} (hv : ARow s v l) (hlen : l.length < 2 ^ 40) (hp : PredA K s f p) : Ev Try.prog K (.func (.func 55) #[] #[]) [v, f] s fun r s' => ∃ z, r = .int .i64 z ∧ (decide (z ≥ 0) = l.any p) ∧ Old s s' := by
  refine Ev.enterK (hK.none (by decide) _) Try.func55 rfl rfl (Nat.le_of_ble_eq_true rfl) ?_
  refine Wc.tail (Wc.assoc (Wc.region (Wk.q rfl rfl rfl (Qk.assign rfl) (Wk.next ?_))))
  refine Wc.assoc (Wc.assoc (Wc.region ?_))
  refine Wk.q rfl rfl rfl (Qk.move rfl) ?_
  refine Wk.q rfl rfl rfl (Qk.lenR rfl rfl rfl hv sl22) ?_
  refine Wk.q rfl rfl rfl (Qk.move rfl) (Wk.next ?_)
  refine Wc.block ?_
  refine Wc.loop (σ := Nat × St) (fun x => Old s x.2 ∧ x.1 ≤ l.length ∧ ∀ j, j < x.1 → p (arcAt l j) = false) (fun x => [(0, v), (1, f), (7, goInt l.length), (8, .int .i64 x.1)]) (fun x => x.2) (fun x => l.length - x.1) (0, s) ⟨Old.refl _, Nat.zero_le _, fun j hj => by omega⟩ ⟨rfl, rfl, rfl, rfl, trivial⟩ rfl ?_
  rintro ⟨i, s1⟩ ⟨hold, hi, hno⟩
  refine Wc.assoc (Wc.region (Wk.q rfl rfl rfl (Qk.bin rfl rfl rfl) (Wk.next ?_)))
  refine Wc.assoc (Wc.cond rfl (fun ht => ?_) (fun ht => ?_))
  · have hlt : i < l.length := by simpa using ht
    refine Wc.skip (Wc.assoc (Wc.block ?_))
    refine Wc.assoc (Wc.region (Wk.q rfl rfl rfl (Qk.move rfl) (Wk.q rfl rfl rfl (Qk.assign rfl) (Wk.next ?_))))
    refine Wc.assoc (Wc.region (Wk.q rfl rfl rfl (Qk.move rfl) (Wk.q rfl rfl rfl (Qk.move rfl) (Wk.q rfl rfl rfl (Qk.move rfl) ?_))))
    refine Wk.q rfl rfl rfl (Qk.at rfl rfl ar22 sl22 (hv.old hold) (by simp; omega)) ?_
    refine Wk.r rfl rfl rfl (Rk.arc rfl sh47 (hv.old hold) (i := i) hlt) ?_
    refine Wk.c rfl rfl rfl (Ck.call rfl rfl) ((hp _ s1 hold).mono ?_)
    rintro _ s2 ⟨rfl, hold2⟩
    refine Wk.next (Wc.cond rfl (fun hpt => ?_) (fun hpf => ?_))
    · refine Wc.assoc (Wc.region (Wk.q rfl rfl rfl (Qk.move rfl) (Wk.q rfl rfl rfl (Qk.assign rfl) (Wk.next ?_))))
      refine Wc.done'' (fun _ _ => rfl) rfl ⟨_, rfl, ?_, hold.trans hold2⟩
      rw [any_true (d := default) hlt hpt]
      simp
    · refine Wc.skip (Wc.thence (fun _ _ => rfl) ?_)
      refine Wc.region (Wk.q rfl rfl rfl (Qk.add rfl rfl (by omega)) (Wk.q rfl rfl rfl (Qk.move rfl) (Wk.next ?_)))
      refine Wc.finish fun fr hf => ⟨(i + 1, s2), ⟨hold.trans hold2, hlt, fun j hj => ?_⟩, by simp; omega, rfl, hf.less ⟨rfl, rfl, rfl, rfl, trivial⟩⟩
      by_cases e : j = i
      · subst e; exact hpf
      · exact hno j (by simp at hj; omega)
  · have hge : l.length ≤ i := by simpa using ht
    refine Wc.jump (fun _ _ => rfl) ?_
    refine Wc.assoc (Wc.region (Wk.q rfl rfl rfl (Qk.assign rfl) (Wk.next (Wc.done' rfl ⟨_, rfl, ?_, hold⟩))))
    rw [any_false (d := default) (fun j hj => hno j (by simp only; omega))]
    decide

theorem c42 (hK : Late K) {v f : Value} {l : List Arc} {p : Arc → Bool} {s : St} (hv : ARow s v l) (hlen : l.length < 2 ^ 40) (hp : PredA K s f p) : Ev Try.prog K (.func (.func 42) #[] #[]) [v, f] s fun r s' => r = .bool (l.any p) ∧ Old s s' := by
  refine Ev.enterK (hK.none (by decide) _) Try.func42 rfl rfl (Nat.le_of_ble_eq_true rfl) ?_
  refine Wc.tail (Wc.assoc (Wc.region (Wk.q rfl rfl rfl (Qk.assign rfl) (Wk.next ?_))))
  refine Wc.assoc (Wc.region (Wk.q rfl rfl rfl (Qk.move rfl) (Wk.q rfl rfl rfl (Qk.move rfl) ?_)))
  refine Wk.c rfl rfl rfl (Ck.call rfl rfl) ((c55 hK hv hlen hp).mono ?_)
  rintro _ s1 ⟨z, rfl, hz, hold⟩
  refine Wk.q rfl rfl rfl (Qk.bin rfl rfl rfl) (Wk.q rfl rfl rfl (Qk.assign rfl) (Wk.next (Wc.done' rfl ⟨?_, hold⟩)))
  show Value.bool _ = _
  rw [← hz]

/-- What is wrong with an arc. -/
def wrongArc (N : Int) (a : Arc) : Bool := decide (min a.fr a.to < 0) || decide (max a.fr a.to ≥ N) || a.fr == a.to || decide (a.cap < 0) || decide (a.cap > 1000000)
/-- The error of a network. -/
def netErr (N : Int) (l : List Arc) : Int := if N > 40 ∨ l.length > 200 then 4 else if N < 2 ∨ l.any (wrongArc N) = true then 8 else 0

set_option maxRecDepth 100000 in
theorem c30 (hK : Late K) {v : Value} {N : Int} {l : List Arc} {s : St} (hv : ARow s v l) (hlen : l.length < 2 ^ 40) : Ev Try.prog K (.func (.func 30) #[] #[]) [.agg #[.int .i64 N, v]] s fun r s' => r = .int .i64 (netErr N l) ∧ Old s s' := by
  refine Ev.enterK (hK.none (by decide) _) Try.func30 rfl rfl (Nat.le_of_ble_eq_true rfl) ?_
  have hg : (s.push ⟨[.int .i64 N, v], .rw⟩).get s.size = some ⟨[.int .i64 N, v], .rw⟩ := gnew
  refine Wc.tail (Wc.assoc (Wc.region ?_))
  refine Wk.f rfl rfl rfl (Fk.box rfl rfl) ?_
  refine Wk.q rfl rfl rfl (Qk.assign rfl) (Wk.next ?_)
  refine Wc.assoc (Wc.assoc (Wc.region ?_))
  refine Wk.q rfl rfl rfl (Qk.fa rfl fd24_0) ?_
  refine Wk.r rfl rfl rfl (Rk.cell rfl sh3 hg (by simp) rfl) ?_
  refine Wk.q rfl rfl rfl (Qk.bin rfl rfl rfl) ?_
  refine Wk.b rfl rfl rfl (Qk.move rfl) fun b hb => ?_
  have hold : Old s (s.push ⟨[.int .i64 N, v], .rw⟩) := Old.push _ _
  cases b with
  | true =>
    refine Wk.no rfl rfl rfl (Wk.no rfl rfl rfl (Wk.no rfl rfl rfl (Wk.no rfl rfl rfl ?_)))
    refine Wk.q rfl rfl rfl (Qk.pickT rfl rfl) (Wk.next (Wc.condT rfl ?_))
    refine Wc.assoc (Wc.region (Wk.q rfl rfl rfl (Qk.assign rfl) (Wk.next (Wc.done'' (fun _ _ => rfl) rfl ⟨?_, hold⟩))))
    have : N > 40 := by simpa using hb
    simp [netErr, this, pack]
  | false =>
    have h1 : ¬ N > 40 := by simpa using hb
    refine Wk.q rfl rfl rfl (Qk.fa rfl fd24_1) ?_
    refine Wk.r rfl rfl rfl (Rk.cell rfl sh22 hg (by simp) rfl) ?_
    refine Wk.q rfl rfl rfl (Qk.lenR rfl rfl rfl hv sl22) ?_
    refine Wk.b rfl rfl rfl (Qk.bin rfl rfl rfl) fun b hb => ?_
    refine Wk.q rfl rfl rfl (Qk.pickF rfl rfl) ?_
    cases b with
    | true =>
      refine Wk.next (Wc.condT rfl ?_)
      refine Wc.assoc (Wc.region (Wk.q rfl rfl rfl (Qk.assign rfl) (Wk.next (Wc.done'' (fun _ _ => rfl) rfl ⟨?_, hold⟩))))
      have : l.length > 200 := by have h : (l.length : Int) > 200 := by simpa using hb
                                  omega
      simp [netErr, this, pack]
    | false =>
      have h2 : ¬ l.length > 200 := by have h : ¬ (l.length : Int) > 200 := by simpa using hb
                                       omega
      refine Wk.next (Wc.condF rfl ?_)
      refine Wc.skip (Wc.assoc (Wc.region ?_))
      refine Wk.q rfl rfl rfl (Qk.fa rfl fd24_1) ?_
      refine Wk.r rfl rfl rfl (Rk.cell rfl sh22 hg (by simp) rfl) ?_
      refine Wk.q rfl rfl rfl (Qk.makeFunc rfl rfl) ?_
      have hp : PredA K (s.push ⟨[.int .i64 N, v], .rw⟩) (.func (.func 43) #[] #[.pointer (some ⟨s.size, 0, none⟩)]) (wrongArc N) := by
        rintro ⟨f, t, c⟩ s1 ho
        refine (c43 hK (ho.get hg) f t c).mono ?_
        rintro _ _ ⟨rfl, rfl⟩
        exact ⟨rfl, Old.push _ _⟩
      refine Wk.c rfl rfl rfl (Ck.call rfl rfl) ((c42 hK (hv.old hold) hlen hp).mono ?_)
      rintro _ s1 ⟨rfl, ho⟩
      refine Wk.q rfl rfl rfl (Qk.assign rfl) (Wk.next ?_)
      refine Wc.assoc (Wc.assoc (Wc.region ?_))
      refine Wk.q rfl rfl rfl (Qk.fa rfl fd24_0) ?_
      refine Wk.r rfl rfl rfl (Rk.cell rfl sh3 (ho.get hg) (by simp) rfl) ?_
      refine Wk.q rfl rfl rfl (Qk.bin rfl rfl rfl) ?_
      refine Wk.b rfl rfl rfl (Qk.move rfl) fun b hb => ?_
      have hold := hold.trans ho
      have key : ∀ b', (b || l.any (wrongArc N)) = b' → netErr N l = if b' then 8 else 0 := by
        intro b' e
        subst e
        have hb : decide (N < 2) = b := by simpa using hb
        subst hb
        simp [netErr, h1, h2]
      cases b with
      | true =>
        refine Wk.no rfl rfl rfl ?_
        refine Wk.q rfl rfl rfl (Qk.pickT rfl rfl) (Wk.next (Wc.condT rfl ?_))
        refine Wc.assoc (Wc.region (Wk.q rfl rfl rfl (Qk.assign rfl) (Wk.next (Wc.done'' (fun _ _ => rfl) rfl ⟨?_, hold⟩))))
        rw [key true rfl]; rfl
      | false =>
        refine Wk.q rfl rfl rfl (Qk.move rfl) ?_
        refine Wk.q rfl rfl rfl (Qk.pickF rfl rfl) (Wk.next (Wc.cond rfl (fun hc => ?_) (fun hc => ?_)))
        · refine Wc.assoc (Wc.region (Wk.q rfl rfl rfl (Qk.assign rfl) (Wk.next (Wc.done'' (fun _ _ => rfl) rfl ⟨?_, hold⟩))))
          rw [key true hc]; rfl
        · refine Wc.skip (Wc.assoc (Wc.region (Wk.q rfl rfl rfl (Qk.assign rfl) (Wk.next (Wc.done'' (fun _ _ => rfl) rfl ⟨?_, hold⟩)))))
          rw [key false hc]; rfl
end Go.Proofs.Ytgkmpidihgbkdaa
