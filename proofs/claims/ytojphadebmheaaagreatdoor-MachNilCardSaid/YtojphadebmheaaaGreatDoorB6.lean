/- Each operation that leaves memory alone, in the model. -/
import Derived.Test.YtojphadebmheaaaGreatDoorB5
namespace Go.Proofs.Ago
open Go
variable {P : Program}

def OutV (P : Program) (B : Base) (φ : Phi) (μ : Mu) (m : Sem Value) (v : AV) (st' : Store) (w : World) : Prop :=
  ∃ cv w' φ' μ', m.run P w = .ok cv w' ∧ VRel φ' μ' v cv ∧ Sim B φ' μ' st' w' ∧ Ext φ μ φ' μ'

def OutS (P : Program) (B : Base) (φ : Phi) (μ : Mu) (m : Sem Next) (v : AV) (st' : Store) (w : World) : Prop :=
  ∃ n cv w' φ' μ', m.run P w = .ok n w' ∧ (n = .value cv ∨ (n = .skip ∧ cv = undef)) ∧ VRel φ' μ' v cv ∧ Sim B φ' μ' st' w' ∧ Ext φ μ φ' μ'

section
variable {B : Base} {φ : Phi} {μ : Mu} {st : Store} {w : World}

theorem OutV.next {m : Sem Value} {v : AV} {st' : Store} (h : OutV P B φ μ m v st' w) : OutS P B φ μ (do pure (.value (← m))) v st' w := by
  obtain ⟨cv, w', φ', μ', h1, h2⟩ := h
  exact ⟨_, cv, w', φ', μ', by simp [h1], .inl rfl, h2⟩

theorem OutV.same {m : Sem Value} {v : AV} {cv : Value} (hs : Sim B φ μ st w) (h : m.run P w = .ok cv w) (hv : VRel φ μ v cv) : OutV P B φ μ m v st w :=
  ⟨cv, w, φ, μ, h, hv, hs, Ext.refl _ _⟩

theorem OutV.mk {m : Sem Value} {v : AV} {cv : Value} {st' : Store} {w' : World} {φ' : Phi} {μ' : Mu} (h : m.run P w = .ok cv w') (hv : VRel φ' μ' v cv) (hs : Sim B φ' μ' st' w') (he : Ext φ μ φ' μ') :
    OutV P B φ μ m v st' w := ⟨cv, w', φ', μ', h, hv, hs, he⟩

theorem run_isAgg {t : TypeId} {d : TypeDesc} (h : P.underlying t = some d) (w : World) : (isAgg t).run P w = .ok d.isRow w := by
  unfold isAgg
  rw [Sem.run_bind, run_underlying h]
  cases d <;> rfl

theorem layOf_none {t : TypeId} (h : layOf P t = some none) : ∃ d, P.underlying t = some d ∧ d.isRow = false := by
  unfold layOf at h
  split at h
  · cases hi : P.info? t <;> simp [hi] at h
  · cases hi : P.info? t <;> simp [hi] at h
  · rename_i d h1 h2 hd
    refine ⟨d, hd, ?_⟩
    cases d <;> first | rfl | exact absurd rfl (h1 _) | exact absurd rfl (h2 _ _)
  · cases h

theorem layOf_some {t : TypeId} {n : Nat} (h : layOf P t = some (some n)) : ∃ d, P.underlying t = some d ∧ d.isRow = true ∧ (P.info? t).map (·.size) = some n := by
  unfold layOf at h
  split at h
  · rename_i fs hd
    refine ⟨_, hd, rfl, ?_⟩
    cases hi : P.info? t <;> simp [hi] at h ⊢; exact h
  · rename_i a b hd
    refine ⟨_, hd, rfl, ?_⟩
    cases hi : P.info? t <;> simp [hi] at h ⊢; exact h
  · simp at h
  · cases h

theorem run_sizeOf {t : TypeId} {n : Nat} (h : (P.info? t).map (·.size) = some n) (w : World) : (sizeOf t).run P w = .ok n w := by
  cases hi : P.info? t <;> simp [hi] at h
  simp [sizeOf, typeInfo, hi, h]

theorem sizeA_eq {t : TypeId} : sizeA P t = (P.info? t).map (·.size) := rfl

/-- Some cells, read as a value of a type. -/
theorem ldc_rel {l : Option Nat} {cs : List AV} {off : Nat} {r : AV} {f : Nat → Value} (h : ldc l cs off = some r) (hc : ∀ i, i < cs.length → VRel φ μ (cs.getD i .unk) (f i)) :
    match l with
    | none => off < cs.length ∧ VRel φ μ r (f off)
    | some n => off + n ≤ cs.length ∧ VRel φ μ r (.agg ((List.range n).map fun j => f (off + j)).toArray) := by
  cases l with
  | none =>
    simp only [ldc] at h
    obtain ⟨hlt, he⟩ := List.getElem?_eq_some_iff.1 h
    refine ⟨hlt, ?_⟩
    have := hc off hlt
    simpa [List.getD, h] using this
  | some n =>
    simp only [ldc] at h
    split at h <;> try (cases h; done)
    rename_i hle
    injection h with h
    subst h
    refine ⟨hle, .agg _ _ (by simp; omega) fun i hi => ?_⟩
    have hi' : i < n := by simp at hi; omega
    have := hc (off + i) (by omega)
    simpa [List.getD, List.getElem?_take, hi'] using this

theorem run_part {t : TypeId} {l : Option Nat} (hl : layOf P t = some l) (hs : Sim B φ μ st w) {cs : List AV} {vs : Array Value} {off : Nat} {r : AV} (hld : ldc l cs off = some r)
    (hsz : vs.size = cs.length) (hc : ∀ i, i < cs.length → VRel φ μ (cs.getD i .unk) (vs.getD i undef)) : ∃ c, (part t vs off).run P w = .ok c w ∧ VRel φ μ r c := by
  have hr := ldc_rel hld hc
  cases l with
  | none =>
    obtain ⟨d, hd, hrow⟩ := layOf_none hl
    obtain ⟨hlt, hr⟩ := hr
    refine ⟨_, ?_, hr⟩
    have : off < vs.size := by omega
    simp [part, run_isAgg hd, hrow, this]
  | some n =>
    obtain ⟨d, hd, hrow, hi⟩ := layOf_some hl
    obtain ⟨hle, hr⟩ := hr
    refine ⟨_, ?_, hr⟩
    simp only [part, Sem.run_bind, run_isAgg hd, hrow, if_true, Result.andThen_ok, run_sizeOf hi, Sem.run_pure]
    congr 2
    apply Array.ext
    · simp; omega
    · intro i h1 h2
      have : off + i < vs.size := by simp at h1; omega
      simp [this]

/-! ### The operations -/

theorem s_pick {a b c : AV} {x y z : Value} {v : AV} {st' : Store} (h : rPick st [a, b, c] = some (v, st')) (ha : VRel φ μ a x) (hb : VRel φ μ b y) (hc : VRel φ μ c z) (hs : Sim B φ μ st w) :
    OutV P B φ μ (do pure (if ← asBool x then y else z)) v st' w := by
  cases a <;> simp [rPick] at h
  obtain ⟨rfl, rfl⟩ := h
  rename_i t
  rw [ha.bool_inv]
  refine .same (cv := if t then y else z) hs (by simp [asBool]) ?_
  cases t <;> simpa

theorem s_nilchk {a : AV} {x : Value} {v : AV} {st' : Store} {o : Oper} {y : Operand} {ρ : Operand → Value} (ho : o.op = .nilCheck y) (hx : ρ y = x) (h : rNilchk st [a] = some (v, st')) (ha : VRel φ μ a x)
    (hs : Sim B φ μ st w) : OutS P B φ μ (execOp ρ o) v st' w := by
  unfold execOp
  simp only [ho, hx]
  unfold rNilchk at h
  split at h <;> simp at h <;> obtain ⟨rfl, rfl⟩ := h
  · rename_i h1; simp at h1; subst h1
    obtain ⟨p, hp, rfl⟩ := ha.ptr_inv
    exact ⟨_, _, w, φ, μ, rfl, .inl rfl, ha, hs, Ext.refl _ _⟩
  · rename_i h1; simp at h1; subst h1
    obtain ⟨blk, base, f, hm, hr, rfl⟩ := ha.eptr_inv
    exact ⟨_, _, w, φ, μ, rfl, .inl rfl, ha, hs, Ext.refl _ _⟩
  · rename_i h1; simp at h1; subst h1
    obtain ⟨as, bs, rfl, _⟩ := ha.fn_inv
    exact ⟨_, _, w, φ, μ, rfl, .inl rfl, ha, hs, Ext.refl _ _⟩

theorem byteList_eq (a b : ByteArray) : (a.toList == b.toList) = (a.data.toList == b.data.toList) := by
  rw [ByteArray.toList_eq, ByteArray.toList_eq]

theorem run_binOp_int {op : BinOp} {t : TypeId} {k k' : IntKind} {a b : Int} {v : AV} (h : binA op (.int k a) (.int k' b) = some v) : ∃ c, (binOp op t (.int k a) (.int k' b)).run P w = .ok c w ∧ VRel φ μ v c := by
  have hi : ∀ k n, VRel φ μ (.int k n) (.int k n) := fun k n => .pure (.int k n)
  have hbo : ∀ b, VRel φ μ (.bool b) (.bool b) := fun b => .pure (.bool b)
  unfold binA at h
  cases op
  case shl =>
    simp only [shiftI] at h
    split at h <;> try (cases h; done)
    rename_i hb; injection h with h; subst h
    exact ⟨_, by simp [binOp, Op.shift, hb], hi _ _⟩
  case shr =>
    simp only [shiftI] at h
    split at h <;> try (cases h; done)
    rename_i hb; injection h with h; subst h
    exact ⟨_, by simp [binOp, Op.shift, hb], hi _ _⟩
  all_goals
    simp only at h
    split at h <;> try (cases h; done)
    rename_i hk; subst hk
    simp only [binI] at h
  case quo =>
    split at h <;> try (cases h; done)
    rename_i hb; injection h with h; subst h
    exact ⟨_, by simp [binOp, Op.intDiv, hb], hi _ _⟩
  case rem =>
    split at h <;> try (cases h; done)
    rename_i hb; injection h with h; subst h
    exact ⟨_, by simp [binOp, Op.intDiv, hb], hi _ _⟩
  case add | sub | mul =>
    injection h with h; subst h
    exact ⟨_, by simp [binOp, Op.intArith], hi _ _⟩
  case and | or | xor | andNot =>
    injection h with h; subst h
    exact ⟨_, by simp only [binOp, ne_eq, not_true_eq_false, if_false, Op.intBits, Sem.run_pure], hi _ _⟩
  all_goals
    injection h with h; subst h
    exact ⟨_, by simp [binOp, Op.intCmp], hbo _⟩

theorem run_binOp_str {op : BinOp} {t : TypeId} {a b : ByteArray} {v : AV} (h : binA op (.str a.data.toList) (.str b.data.toList) = some v) : ∃ c, (binOp op t (.string a) (.string b)).run P w = .ok c w ∧ VRel φ μ v c := by
  have hbo : ∀ b, VRel φ μ (.bool b) (.bool b) := fun b => .pure (.bool b)
  have e : ∀ s : ByteArray, s.toList = s.data.toList := fun s => ByteArray.toList_eq s
  simp only [binA] at h
  cases op <;> simp only [binS] at h <;> try (cases h; done)
  case add =>
    split at h <;> try (cases h; done)
    rename_i hle; injection h with h; subst h
    have h1 : ¬ (((a.size + b.size : Nat) : Int) > IntKind.i64.max) := by
      have : a.size = a.data.toList.length := by simp
      have : b.size = b.data.toList.length := by simp
      have h3 : IntKind.i64.max = 9223372036854775807 := by decide
      unfold maxA at hle
      rw [h3]; omega
    refine ⟨.string (a ++ b), by simp only [binOp, Op.stringOp, h1, if_false]; rfl, .pure ?_⟩
    have := PRel.str (μ := μ) (a ++ b)
    rwa [show (a ++ b).data.toList = a.data.toList ++ b.data.toList from by simp] at this
  all_goals
    injection h with h; subst h
    exact ⟨_, by simp only [binOp, Op.stringOp, e, Sem.run_pure], hbo _⟩

theorem s_bin {op : BinOp} {t : TypeId} {p q : Operand} {a b : AV} {x y : Value} {v : AV} {st' : Store} (h : rBin st op [a, b] = some (v, st')) (ha : VRel φ μ a x) (hb : VRel φ μ b y) (hs : Sim B φ μ st w) :
    OutV P B φ μ (do eqGuard op t p q x y; binOp op t x y) v st' w := by
  simp only [rBin, Option.map_eq_some_iff, Prod.mk.injEq] at h
  obtain ⟨v, h, rfl, rfl⟩ := h
  unfold binA at h
  split at h
  · rename_i k a k' b
    rw [ha.int_inv, hb.int_inv]
    obtain ⟨c, h1, h2⟩ := run_binOp_int (P := P) (w := w) (φ := φ) (μ := μ) (op := op) (t := t) (k := k) (k' := k') (a := a) (b := b) (v := v) (by unfold binA; exact h)
    refine .same hs ?_ h2
    have : (eqGuard op t p q (.int k a) (.int k' b)).run P w = .ok () w := by unfold eqGuard; cases op <;> simp
    simp [this, h1]
  · obtain ⟨a', rfl, rfl⟩ := ha.str_inv
    obtain ⟨b', rfl, rfl⟩ := hb.str_inv
    obtain ⟨c, h1, h2⟩ := run_binOp_str (P := P) (w := w) (φ := φ) (μ := μ) (op := op) (t := t) (a := a') (b := b') (v := v) (by unfold binA; exact h)
    refine .same hs ?_ h2
    have : (eqGuard op t p q (.string a') (.string b')).run P w = .ok () w := by unfold eqGuard; cases op <;> simp
    simp [this, h1]
  · cases h

end
end Go.Proofs.Ago
