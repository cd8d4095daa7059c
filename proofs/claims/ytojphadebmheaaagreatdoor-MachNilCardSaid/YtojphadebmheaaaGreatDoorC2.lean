/- Tables of compact code; what a run of them says of the model's calls. -/
import Derived.Test.YtojphadebmheaaaGreatDoorC1
namespace Go.Proofs.Ago
open Go

/-- Functions' code, by their numbers. -/
inductive Tr where
  | leaf
  | node (k : Nat) (f : RF) (l r : Tr)

def Tr.get : Tr → Nat → Option RF
  | .leaf, _ => none
  | .node k f l r, n => bif Nat.beq n k then some f else bif Nat.blt n k then l.get n else r.get n

inductive TrOk (P : Program) (M : Nat → Nat) : Tr → Prop
  | leaf : TrOk P M .leaf
  | node {k : Nat} {f : RF} {l r : Tr} (h : ∃ locs, compF P M f.np locs k = some f) (hl : TrOk P M l) (hr : TrOk P M r) : TrOk P M (.node k f l r)

theorem TrOk.tab {P : Program} {M : Nat → Nat} {t : Tr} (h : TrOk P M t) : TabOk P M t.get := by
  induction h with
  | leaf => intro f rf h; cases h
  | @node k f l r h hl hr ihl ihr =>
    intro n rf hn
    simp only [Tr.get] at hn
    cases h1 : Nat.beq n k with
    | true =>
      simp only [h1, cond_true, Option.some.injEq] at hn
      subst hn
      obtain rfl : n = k := Nat.eq_of_beq_eq_true h1
      exact h
    | false =>
      simp only [h1, cond_false] at hn
      cases h2 : Nat.blt n k with
      | true => simp only [h2, cond_true] at hn; exact ihl n rf hn
      | false => simp only [h2, cond_false] at hn; exact ihr n rf hn

/-- A world at the beginning of a call: nothing of it is the call's own. -/
def baseOf (w : World) : Base := ⟨w, fun b => b < w.heap.size, fun _ _ => none, fun _ => False, fun _ => none⟩

theorem Sim.start (w : World) : Sim (baseOf w) (fun _ => none) (fun _ _ => none) [] w :=
  ⟨(fun b o v h => by cases h), (fun i e xs r hi => by simp at hi), (fun i j _ _ _ _ _ _ _ _ hi => by simp at hi), (fun i _ _ _ _ hi => by simp at hi), fun _ _ => rfl, fun _ hb => hb, fun _ _ _ => rfl, (fun i p hp => by cases hp), (fun _ _ => rfl), (fun _ h => h.elim), Quiet.refl w⟩

/-- What a run of compact code answers, of plain arguments that lean on no memory, the model's call answers; all memory that was there stays. -/
theorem calls_of_run {P : Program} {M : Nat → Nat} {t : Tr} (hm : P.follows .mixedOrders = true) (ht : TrOk P M t) {n f : Nat} {args : List AV} {r : AV} {st' : Store} (h : callR t.get n f args [] = some (r, st')) (w : World) (cargs : Array Value)
    (hsz : cargs.size = args.length) (hr : ∀ i, i < args.length → PRel (fun _ _ => none) (args.getD i .unk) (cargs.getD i undef)) :
    Calls P f cargs w fun e w' => ∃ cv φ' μ', e = .returned cv ∧ VRel φ' μ' r cv ∧ Grows w w' := by
  have h1 := (compact_sound (P := P) (M := M) ht.tab n).1 f args [] (r, st') h
  obtain ⟨_, h2⟩ := (all_sound hm n).1 f args [] r st' h1
  refine (h2 (baseOf w) (fun _ => none) (fun _ _ => none) w cargs (Sim.start w) hsz fun i hi => .pure (hr i hi)).mono fun e w' hp => ?_
  obtain ⟨cv, φ', μ', rfl, k1, k2, _⟩ := hp
  refine ⟨cv, φ', μ', rfl, k1, ?_, fun b hb => k2.frame b hb, k2.io⟩
  rcases Nat.lt_or_ge w'.heap.size w.heap.size with hlt | hge
  · exact absurd (k2.lt w'.heap.size hlt) (Nat.lt_irrefl _)
  · exact hge

end Go.Proofs.Ago
