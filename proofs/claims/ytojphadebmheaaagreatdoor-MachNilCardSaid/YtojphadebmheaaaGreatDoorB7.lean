/- Comparisons, conversions, strings, slices, fields, indexes. -/
import Derived.Test.YtojphadebmheaaaGreatDoorB6
import Derived.LaidEqlPtr
namespace Go.Proofs.Ago
open Go
variable {P : Program}
section
variable {B : Base} {φ : Phi} {μ : Mu} {st : Store} {w : World}

theorem vbool (b : Bool) : VRel φ μ (.bool b) (.bool b) := .pure (.bool b)
theorem vint (k : IntKind) (n : Int) : VRel φ μ (.int k n) (.int k n) := .pure (.int k n)

theorem run_eq_bool {t : TypeId} (ht : P.underlying t = some .bool) (p q : Operand) (op : BinOp) (hop : op = .eql ∨ op = .neq) (a b : Bool) :
    (do eqGuard op t p q (.bool a) (.bool b); binOp op t (.bool a) (.bool b) : Sem Value).run P w = .ok (.bool ((a == b) != (op == .neq))) w := by
  have h := run_equalIn_bool' (P := P) w 9999 t a b ht
  have h' : (Op.equal t (.bool a) (.bool b)).run P w = .ok (a == b) w := h
  have hg : (eqGuard op t p q (.bool a) (.bool b)).run P w = .ok () w := by unfold eqGuard; rcases hop with rfl | rfl <;> simp
  rcases hop with rfl | rfl
  · have e : (BinOp.eql == BinOp.neq) = false := rfl
    simp [hg, binOp, h', e]
  · simp [hg, binOp, h']

theorem s_eqb {t : TypeId} (ht : P.underlying t = some .bool) {p q : Operand} {op : BinOp} (hop : op = .eql ∨ op = .neq) {a b : AV} {x y : Value} {v : AV} {st' : Store}
    (h : rEqb st (op == .neq) [a, b] = some (v, st')) (ha : VRel φ μ a x) (hb : VRel φ μ b y) (hs : Sim B φ μ st w) : OutV P B φ μ (do eqGuard op t p q x y; binOp op t x y) v st' w := by
  unfold rEqb at h
  split at h <;> simp at h
  rename_i a' b' heq
  simp at heq
  obtain ⟨rfl, rfl⟩ := heq
  obtain ⟨rfl, rfl⟩ := h
  rw [ha.bool_inv, hb.bool_inv]
  exact .same hs (run_eq_bool ht p q op hop a' b') (by simpa using vbool _)

theorem run_equal_ptr {t e : TypeId} (ht : P.underlying t = some (.pointer e)) (a : Option Addr) (p q : Operand) (op : BinOp) (hop : op = .eql ∨ op = .neq) :
    (do eqGuard op t p q (.pointer a) (.pointer none); binOp op t (.pointer a) (.pointer none) : Sem Value).run P w = .ok (.bool (a.isNone != (op == .neq))) w := by
  have h : (Op.equal t (.pointer a) (.pointer none)).run P w = .ok a.isNone w := by
    have h : ∀ d : Nat, (Op.equalIn (d + 1) t (.pointer a) (.pointer none)).run P w = .ok a.isNone w := fun d => by
      cases a <;> simp [Op.equalIn, run_underlying ht]
    exact h 9999
  have hg : (eqGuard op t p q (.pointer a) (.pointer none)).run P w = .ok () w := by unfold eqGuard; rcases hop with rfl | rfl <;> simp
  have e : (BinOp.eql == BinOp.neq) = false := rfl
  rcases hop with rfl | rfl
  · cases a <;> simp [hg, binOp, h, e]
  · cases a <;> simp [hg, binOp, h]

theorem run_equal_ptr_same {t e : TypeId} {i : TypeInfo} (ht : P.underlying t = some (.pointer e)) (hi : P.info? e = some i) (a : Addr) (p q : Operand) (op : BinOp) (hop : op = .eql ∨ op = .neq) :
    (do eqGuard op t p q (.pointer (some a)) (.pointer (some a)); binOp op t (.pointer (some a)) (.pointer (some a)) : Sem Value).run P w = .ok (.bool (true != (op == .neq))) w := by
  have h : (Op.equal t (.pointer (some a)) (.pointer (some a))).run P w = .ok true w := by
    have h : ∀ d : Nat, (Op.equalIn (d + 1) t (.pointer (some a)) (.pointer (some a))).run P w = .ok true w := fun d => by
      simp [Op.equalIn, run_underlying ht, sizeOf, typeInfo, hi, run_sameAddr_same]
    exact h 9999
  have hg : (eqGuard op t p q (.pointer (some a)) (.pointer (some a))).run P w = .ok () w := by unfold eqGuard; rcases hop with rfl | rfl <;> simp
  have e : (BinOp.eql == BinOp.neq) = false := rfl
  rcases hop with rfl | rfl
  · simp [hg, binOp, h, e]
  · simp [hg, binOp, h]

theorem s_eqp {t e : TypeId} {i : TypeInfo} (ht : P.underlying t = some (.pointer e)) (hi : P.info? e = some i) {p q : Operand} {op : BinOp} (hop : op = .eql ∨ op = .neq) {a b : AV} {x y : Value} {v : AV} {st' : Store}
    (h : rEqp st (op == .neq) [a, b] = some (v, st')) (ha : VRel φ μ a x) (hb : VRel φ μ b y) (hs : Sim B φ μ st w) : OutV P B φ μ (do eqGuard op t p q x y; binOp op t x y) v st' w := by
  unfold rEqp at h
  split at h <;> simp at h <;> rename_i heq <;> simp at heq <;> obtain ⟨rfl, rfl⟩ := heq
  rotate_right
  · obtain ⟨⟨rfl, rfl, rfl⟩, rfl, rfl⟩ := h
    obtain ⟨pl, h1, rfl⟩ := ha.ptr_inv
    obtain ⟨pl', h2, rfl⟩ := hb.ptr_inv
    obtain rfl : pl = pl' := Option.some.inj (h1.symm.trans h2)
    exact .same hs (run_equal_ptr_same ht hi _ p q op hop) (by simpa using vbool _)
  all_goals obtain ⟨rfl, rfl⟩ := h
  · rw [ha.nilp_inv, hb.nilp_inv]
    exact .same hs (run_equal_ptr ht none p q op hop) (by simpa using vbool _)
  · obtain ⟨pl, _, rfl⟩ := ha.ptr_inv
    rw [hb.nilp_inv]
    exact .same hs (run_equal_ptr ht _ p q op hop) (by simpa using vbool _)
  · obtain ⟨_, _, _, _, _, rfl⟩ := ha.eptr_inv
    rw [hb.nilp_inv]
    exact .same hs (run_equal_ptr ht _ p q op hop) (by simpa using vbool _)

theorem run_equal_slice {t e : TypeId} (ht : P.underlying t = some (.slice e)) (a : Option Addr) (l c : Nat) (p q : Operand) (op : BinOp) (hop : op = .eql ∨ op = .neq) :
    (do eqGuard op t p q (.slice a l c) (.slice none 0 0); binOp op t (.slice a l c) (.slice none 0 0) : Sem Value).run P w = .ok (.bool (a.isNone != (op == .neq))) w := by
  have h : (Op.equal t (.slice a l c) (.slice none 0 0)).run P w = .ok a.isNone w := by
    have h : ∀ d : Nat, (Op.equalIn (d + 1) t (.slice a l c) (.slice none 0 0)).run P w = .ok a.isNone w := fun d => by
      cases a <;> simp [Op.equalIn, run_underlying ht]
    exact h 9999
  have hg : (eqGuard op t p q (.slice a l c) (.slice none 0 0)).run P w = .ok () w := by unfold eqGuard; rcases hop with rfl | rfl <;> simp
  have e : (BinOp.eql == BinOp.neq) = false := rfl
  rcases hop with rfl | rfl
  · cases a <;> simp [hg, binOp, h, e]
  · cases a <;> simp [hg, binOp, h]

theorem s_eqs {t e : TypeId} (ht : P.underlying t = some (.slice e)) {p q : Operand} {op : BinOp} (hop : op = .eql ∨ op = .neq) {a b : AV} {x y : Value} {v : AV} {st' : Store}
    (h : rEqs st (op == .neq) [a, b] = some (v, st')) (ha : VRel φ μ a x) (hb : VRel φ μ b y) (hs : Sim B φ μ st w) : OutV P B φ μ (do eqGuard op t p q x y; binOp op t x y) v st' w := by
  unfold rEqs at h
  split at h <;> simp at h <;> rename_i heq <;> simp at heq <;> obtain ⟨rfl, rfl⟩ := heq <;> obtain ⟨rfl, rfl⟩ := h
  · rw [ha.nils_inv, hb.nils_inv]
    exact .same hs (run_equal_slice ht none 0 0 p q op hop) (by simpa using vbool _)
  · rcases ha.vsl_inv with ⟨h, _⟩ | ⟨_, _, _, _, _, _, _, _, _, _, rfl⟩
    · cases h
    · rw [hb.nils_inv]
      exact .same hs (run_equal_slice ht _ _ _ p q op hop) (by simpa using vbool _)
  · obtain ⟨pl, _, _, rfl⟩ := ha.osl_inv
    rw [hb.nils_inv]
    exact .same hs (run_equal_slice ht _ _ _ p q op hop) (by simpa using vbool _)

theorem eqCells_append (xs ys : List AV) : ∀ (l r : List (Nat × Nat)), eqCells xs ys (l ++ r) = match eqCells xs ys l with
    | some true => eqCells xs ys r
    | o => o
  | [], r => rfl
  | (o, k) :: l, r => by
    simp only [List.cons_append, eqCells]
    cases h : eqCell k (xs.getD o .unk) (ys.getD o .unk) with
    | none => rfl
    | some b => cases b with
      | false => rfl
      | true => exact eqCells_append xs ys l r

/-- The value of a type whose cells lie in a row from a place on. -/
def IsAt (P : Program) (t : TypeId) (f : Nat → Value) (off : Nat) (a : Value) : Prop :=
  match P.underlying t with
  | some (.struct _) => ∃ (A : Array Value), a = .agg A ∧ (P.info? t).map (·.size) = some A.size ∧ ∀ k, k < A.size → A.getD k undef = f (off + k)
  | _ => a = f off

theorem leaves_sound : ∀ (d : Nat) (t : TypeId) (off : Nat) (l : List (Nat × Nat)), leaves P d t off = some l → ∀ (D : Nat) (xs ys : List AV) (f g : Nat → Value) (a b : Value) (r : Bool), d ≤ D →
    (∀ i, i < xs.length → VRel φ μ (xs.getD i .unk) (f i)) → (∀ i, i < ys.length → VRel φ μ (ys.getD i .unk) (g i)) → IsAt P t f off a → IsAt P t g off b →
    eqCells xs ys l = some r → (Op.equalIn D t a b).run P w = .ok r w
  | 0, t, off, l, h => by simp [leaves] at h
  | d + 1, t, off, l, h => by
    intro D xs ys f g a b r hD hx hy ha hb hr
    obtain ⟨D, rfl⟩ : ∃ D', D = D' + 1 := ⟨D - 1, by omega⟩
    have cell : ∀ (zs : List AV) (f : Nat → Value), (∀ i, i < zs.length → VRel φ μ (zs.getD i .unk) (f i)) → zs.getD off .unk = .unk ∨ VRel φ μ (zs.getD off .unk) (f off) := fun zs f h => by
      rcases Nat.lt_or_ge off zs.length with h' | h'
      · exact .inr (h off h')
      · exact .inl (by simp [List.getD, List.getElem?_eq_none h'])
    have hlast : ∀ k, (match eqCell k (xs.getD off .unk) (ys.getD off .unk) with | some true => eqCells xs ys [] | r => r) = some r → eqCell k (xs.getD off .unk) (ys.getD off .unk) = some r := fun k h => by
      split at h <;> simp_all [eqCells]
    unfold leaves at h
    unfold IsAt at ha hb
    split at h
    · rename_i ht
      injection h with h; subst h
      simp only [ht] at ha hb
      have := hlast 0 hr
      rcases cell xs f hx with h1 | h1 <;> rcases cell ys g hy with h2 | h2 <;> generalize xs.getD off .unk = u at * <;> generalize ys.getD off .unk = v at * <;>
        (unfold eqCell at this; split at this <;> simp_all)
      rw [h1.bool_inv, h2.bool_inv]
      rw [run_equalIn_bool' w _ t _ _ ht, this]
    · rename_i k0 ht
      injection h with h; subst h
      simp only [ht] at ha hb
      have := hlast 1 hr
      rcases cell xs f hx with h1 | h1 <;> rcases cell ys g hy with h2 | h2 <;> generalize xs.getD off .unk = u at * <;> generalize ys.getD off .unk = v at * <;>
        (unfold eqCell at this; split at this <;> simp_all)
      obtain ⟨rfl, this⟩ := this
      rw [h1.int_inv, h2.int_inv, run_equalIn_int w _ t _ _ _ _ ht, this]
    · rename_i ht
      injection h with h; subst h
      simp only [ht] at ha hb
      have := hlast 2 hr
      rcases cell xs f hx with h1 | h1 <;> rcases cell ys g hy with h2 | h2 <;> generalize xs.getD off .unk = u at * <;> generalize ys.getD off .unk = v at * <;>
        (unfold eqCell at this; split at this <;> simp_all)
      obtain ⟨s1, e1, e2⟩ := h1.str_inv
      obtain ⟨s2, e3, e4⟩ := h2.str_inv
      rw [e1, e3, run_equalIn_string w _ t _ _ ht, byteList_eq, e2, e4, this]
    · rename_i fs ht
      split at h <;> try (cases h; done)
      rename_i hheld
      simp only [ht] at ha hb
      obtain ⟨A, rfl, hA, hAf⟩ := ha
      obtain ⟨C, rfl, hC, hCg⟩ := hb
      have hsz : A.size = C.size := by rw [hA] at hC; exact Option.some.inj hC
      have hft : P.fieldsOf t = fs := by simp [Program.fieldsOf, ht]
      rw [run_equalIn_struct w D t A C (by rw [hft]; exact ht) (by simpa using hheld), hft]
      have hsA : sizeA P t = some A.size := hA
      simp only [hsA] at h
      clear hft ht hheld
      revert l
      generalize fs.toList = fl
      induction fl with
      | nil =>
        intro l hr h
        simp at h; subst h
        simp [eqCells] at hr
        simp [Op.eqFields, ← hr]
      | cons fd fl ihf =>
        intro l hr h
        simp only [List.foldr_cons] at h
        by_cases hn : fd.name ≠ "_"
        · rw [if_pos hn] at h
          cases hfz : sizeA P fd.type with
          | none => simp [hfz] at h
          | some n =>
            simp only [hfz] at h
            split at h <;> try (cases h; done)
            rename_i hfit
            simp only [Option.bind_eq_some_iff, Option.map_eq_some_iff] at h
            obtain ⟨l1, hl1, l2, hl2, rfl⟩ := h
            rw [eqCells_append] at hr
            have part_at : ∀ (X : Array Value) (f : Nat → Value), X.size = A.size → (∀ k, k < X.size → X.getD k undef = f (off + k)) → ∃ c, (part fd.type X fd.offset).run P w = .ok c w ∧ IsAt P fd.type f (off + fd.offset) c := fun X f hX hf => by
              unfold IsAt
              have hn1 : fd.offset + n ≤ X.size := by omega
              split
              · rename_i fs' ht'
                refine ⟨.agg (X.extract fd.offset (fd.offset + n)), ?_, _, rfl, ?_, fun k hk => ?_⟩
                · simp only [part, Sem.run_bind, run_isAgg ht', Result.andThen_ok, run_sizeOf hfz, if_true, Sem.run_pure]
                · rw [show (P.info? fd.type).map (·.size) = some n from hfz]; simp; omega
                · have hk' : k < n := by simp at hk; omega
                  have h1 := hf (fd.offset + k) (by omega)
                  have h2 : k < min (fd.offset + n) X.size - fd.offset := by omega
                  rw [Nat.add_assoc, ← h1]
                  simp only [Array.getD_eq_getD_getElem?, Array.getElem?_extract, if_pos h2]
              · rename_i hns
                have hlt : fd.offset < X.size := by omega
                refine ⟨X[fd.offset]'hlt, ?_, by simpa [hlt] using hf fd.offset hlt⟩
                have hrow : ∃ dd, P.underlying fd.type = some dd ∧ dd.isRow = false := by
                  cases d with
                  | zero => simp [leaves] at hl1
                  | succ d =>
                    unfold leaves at hl1
                    split at hl1 <;> first
                      | exact ⟨_, by assumption, rfl⟩
                      | (rename_i hq; exact absurd hq (hns _))
                      | cases hl1
                obtain ⟨dd, hdd, hrow⟩ := hrow
                simp [part, run_isAgg hdd, hrow, hlt]
            obtain ⟨c1, hp1, hi1⟩ := part_at A f rfl hAf
            obtain ⟨c2, hp2, hi2⟩ := part_at C g hsz.symm hCg
            cases hq : eqCells xs ys l1 with
            | none => simp [hq] at hr
            | some q =>
              have heq := leaves_sound d fd.type (off + fd.offset) l1 hl1 D xs ys f g c1 c2 q (by omega) hx hy hi1 hi2 hq
              simp only [Op.eqFields, if_pos hn, Sem.run_bind, hp1, hp2, heq, Result.andThen_ok]
              cases q with
              | false => simp [hq] at hr; simp [← hr]
              | true =>
                simp only [hq] at hr
                simpa using ihf l2 hr hl2
        · rw [if_neg hn] at h
          simp only [Op.eqFields, if_neg hn]
          exact ihf l hr h
    · cases h

end
end Go.Proofs.Ago
