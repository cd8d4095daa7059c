/- Places that are hidden from a call, and put back. -/
import Derived.Test.YtojphadebmheaaaGreatDoorB17
namespace Go.Proofs.Ago
open Go

section
variable {B : Base} {φ : Phi} {μ : Mu} {st : Store} {w : World}

/-- What a call sees, from which some places are hidden. -/
def Base.mask (B : Base) (φ : Phi) (μ : Mu) (st : Store) (w : World) (hid : List Nat) : Base :=
  ⟨w, fun b => B.F b ∨ ∃ i e xs r p, hid.contains i = true ∧ st[i]? = some (Blk.row e xs r) ∧ φ i = some p ∧ p.blk = b, μ, fun i => B.D i ∨ (hid.contains i = true ∧ i < st.length), φ⟩

theorem Sim.mask (h : Sim B φ μ st w) (hid : List Nat) : Sim (B.mask φ μ st w hid) φ μ (hide hid st) w := by
  have hget : ∀ i e xs r, (hide hid st)[i]? = some (Blk.row e xs r) → hid.contains i = false ∧ st[i]? = some (Blk.row e xs r) := fun i e xs r hi => by
    rw [hide_get] at hi
    by_cases hc : hid.contains i = true
    · rw [if_pos hc] at hi
      cases h0 : st[i]? <;> simp [h0] at hi
    · rw [if_neg hc] at hi
      exact ⟨by simpa using hc, hi⟩
  refine ⟨h.mem, fun i e xs r hi => h.rows i e xs r (hget _ _ _ _ hi).2, fun i j e xs r e' xs' r' p q hi hj => h.inj i j _ _ _ _ _ _ p q (hget _ _ _ _ hi).2 (hget _ _ _ _ hj).2, fun i e xs r p hi hp hF => ?_, fun b hb => rfl, fun b hb => ?_, fun b o hb => rfl,
    fun i p hp => by simpa [hide] using h.dom i p hp, fun i hi => ?_, fun i hi => ?_, Quiet.refl w⟩
  · obtain ⟨hc, hi⟩ := hget _ _ _ _ hi
    rcases hF with hF | ⟨j, e', xs', r', q, hjc, hj, hq, hpq⟩
    · exact h.own i e xs r p hi hp hF
    · have := h.inj i j _ _ _ _ _ _ p q hi hj hp hq hpq.symm
      subst this
      rw [hjc] at hc
      cases hc
  · rcases hb with hb | ⟨j, e', xs', r', q, hjc, hj, hq, rfl⟩
    · exact h.lt b hb
    · obtain ⟨q', cs, T, hr⟩ := h.rows _ _ _ _ hj
      obtain rfl : q' = q := Option.some.inj (hr.at_.symm.trans hq)
      exact hr.lt
  · rw [hide_get] at hi
    by_cases hc : hid.contains i = true
    · rw [if_pos hc] at hi
      cases h0 : st[i]? <;> simp [h0] at hi
    · rw [if_neg hc] at hi
      exact h.fresh i hi
  · refine ⟨?_, rfl⟩
    rw [hide_get]
    rcases hi with hi | ⟨hc, hl⟩
    · obtain ⟨h1, _⟩ := h.hid i hi
      rw [h1]
      split <;> rfl
    · rw [if_pos hc, List.getElem?_eq_getElem hl]
      rfl

theorem Sim.unmask (h : Sim B φ μ st w) {hid : List Nat} {φ' : Phi} {μ' : Mu} {st1 : Store} {w' : World} (h2 : Sim (B.mask φ μ st w hid) φ' μ' st1 w') (hx : Ext φ μ φ' μ') : Sim B φ' μ' (restore hid st st1) w' := by
  have hD : ∀ i, hid.contains i = true → i < st.length → st1[i]? = some Blk.dead ∧ φ' i = φ i := fun i hc hl => h2.hid i (.inr ⟨hc, hl⟩)
  have hget : ∀ i c, (restore hid st st1)[i]? = some c → (hid.contains i = true ∧ i < st.length ∧ st[i]? = some c ∧ φ' i = φ i) ∨ ((hid.contains i = false ∨ st.length ≤ i) ∧ st1[i]? = some c) := fun i c hi => by
    rw [restore_get] at hi
    by_cases hc : hid.contains i = true
    · rw [if_pos hc] at hi
      rcases Nat.lt_or_ge i st.length with hl | hl
      · obtain ⟨h1, h3⟩ := hD i hc hl
        rw [h1, List.getElem?_eq_getElem hl] at hi
        simp only [Option.map_some, Option.getD_some, Option.some.injEq] at hi
        exact .inl ⟨hc, hl, by rw [List.getElem?_eq_getElem hl, hi], h3⟩
      · rw [List.getElem?_eq_none hl] at hi
        refine .inr ⟨.inr hl, ?_⟩
        cases h0 : st1[i]? with
        | none => simp [h0] at hi
        | some c' => simpa [h0] using hi
    · rw [if_neg hc] at hi
      exact .inr ⟨.inl (by simpa using hc), hi⟩
  have old : ∀ i e xs r p, hid.contains i = true → st[i]? = some (Blk.row e xs r) → φ i = some p → (B.mask φ μ st w hid).F p.blk := fun i e xs r p hc hi hp => .inr ⟨i, e, xs, r, p, hc, hi, hp, rfl⟩
  refine ⟨h2.mem, fun i e xs r hi => ?_, fun i j e xs r e' xs' r' p q hi hj hp hq hpq => ?_, fun i e xs r p hi hp hF => ?_, fun b hb => (h2.frame b (.inl hb)).trans (h.frame b hb), fun b hb => h2.lt b (.inl hb), fun b o hb => (h2.mu b o (.inl hb)).trans (h.mu b o hb),
    fun i p hp => by simpa [restore] using h2.dom i p hp, fun i hi => ?_, fun i hi => ?_, h.io.trans h2.io⟩
  · rcases hget i _ hi with ⟨hc, hl, hi, _⟩ | ⟨_, hi⟩
    · obtain ⟨p, cs, T, hr⟩ := h.rows i e xs r hi
      have hF := old i e xs r p hc hi hr.at_
      exact ⟨p, cs, T, hr.mono hx (h2.frame _ hF) fun o v hm => hr.mu o v ((h2.mu _ o hF).symm.trans hm)⟩
    · exact h2.rows i e xs r hi
  · rcases hget i _ hi with ⟨hc, hl, hi, hpi⟩ | ⟨_, hi⟩ <;> rcases hget j _ hj with ⟨hc', hl', hj, hpj⟩ | ⟨_, hj⟩
    · rw [hpi] at hp; rw [hpj] at hq
      exact h.inj i j _ _ _ _ _ _ p q hi hj hp hq hpq
    · rw [hpi] at hp
      exact absurd (hpq ▸ old i _ _ _ p hc hi hp) (h2.own j _ _ _ q hj hq)
    · rw [hpj] at hq
      exact absurd (hpq ▸ old j _ _ _ q hc' hj hq) (h2.own i _ _ _ p hi hp)
    · exact h2.inj i j _ _ _ _ _ _ p q hi hj hp hq hpq
  · rcases hget i _ hi with ⟨hc, hl, hi, hpi⟩ | ⟨_, hi⟩
    · rw [hpi] at hp
      exact h.own i _ _ _ p hi hp hF
    · exact h2.own i _ _ _ p hi hp (.inl hF)
  · rcases hget i _ hi with ⟨hc, hl, hi, hpi⟩ | ⟨_, hi⟩
    · rw [hpi]; exact h.fresh i hi
    · exact h2.fresh i hi
  · obtain ⟨h3, h4⟩ := h.hid i hi
    obtain ⟨h5, h6⟩ := h2.hid i (.inl hi)
    refine ⟨?_, h6.trans h4⟩
    rw [restore_get, h5, h3]
    split <;> rfl

end
end Go.Proofs.Ago
