/- Struct equality as an operation; unary operations, conversions, strings, slices, fields, indexes. -/
import Derived.Test.YtojphadebmheaaaGreatDoorB7
namespace Go.Proofs.Ago
open Go
variable {P : Program}
section
variable {B : Base} {φ : Phi} {μ : Mu} {st : Store} {w : World}

theorem s_eqc {t : TypeId} {fs : Array Field} (ht : P.underlying t = some (.struct fs)) (hg : P.eqGuardType P.depth t = false) {l : List (Nat × Nat)} (hl : leaves P 10 t 0 = some l) {n : Nat} (hsz : sizeA P t = some n)
    {p q : Operand} {op : BinOp} (hop : op = .eql ∨ op = .neq) {a b : AV} {x y : Value} {v : AV} {st' : Store} 
    (h : rEqc st (op == .neq) n l [a, b] = some (v, st')) (ha : VRel φ μ a x) (hb : VRel φ μ b y) (hs : Sim B φ μ st w) : OutV P B φ μ (do eqGuard op t p q x y; binOp op t x y) v st' w := by
  unfold rEqc at h
  split at h <;> try (cases h; done)
  rename_i xs ys heq
  simp at heq
  obtain ⟨rfl, rfl⟩ := heq
  split at h <;> try (cases h; done)
  rename_i hln
  obtain ⟨hla, hlb⟩ := hln
  simp only [Option.map_eq_some_iff, Prod.mk.injEq] at h
  obtain ⟨r, hr, rfl, rfl⟩ := h
  obtain ⟨A, rfl, hA, hAr⟩ := ha.agg_inv
  obtain ⟨C, rfl, hC, hCr⟩ := hb.agg_inv
  have at_ : ∀ X : Array Value, X.size = n → IsAt P t (fun k => X.getD k undef) 0 (.agg X) := fun X hX => by
    unfold IsAt
    simp only [ht]
    exact ⟨X, rfl, by rw [hX]; exact hsz, fun k _ => by simp⟩
  have he := leaves_sound (P := P) (φ := φ) (μ := μ) (w := w) 10 t 0 l hl 10000 xs ys (fun k => A.getD k undef) (fun k => C.getD k undef) (.agg A) (.agg C) r (by omega) hAr hCr (at_ A (by omega)) (at_ C (by omega)) hr
  have hgd : (eqGuard op t p q (.agg A) (.agg C)).run P w = .ok () w := by
    unfold eqGuard
    rcases hop with rfl | rfl <;> simp [hg]
  have e : (BinOp.eql == BinOp.neq) = false := rfl
  rcases hop with rfl | rfl
  · refine .same hs (cv := .bool r) ?_ (by simpa [e] using vbool (φ := φ) (μ := μ) r)
    simp [hgd, run_eql_struct, he]
  · refine .same hs (cv := .bool (!r)) ?_ (by simpa using vbool (φ := φ) (μ := μ) (!r))
    simp [hgd, run_neq_struct, he]

theorem s_un {op : UnOp} {a : AV} {x : Value} {v : AV} {st' : Store} (h : rUn st op [a] = some (v, st')) (ha : VRel φ μ a x) (hs : Sim B φ μ st w) : OutV P B φ μ (Op.unary op x) v st' w := by
  unfold rUn at h
  split at h <;> try (cases h; done)
  · rename_i k n heq
    simp at heq; subst heq
    rw [ha.int_inv]
    split at h <;> simp at h <;> obtain ⟨rfl, rfl⟩ := h
    · exact .same hs (cv := .int k (k.wrap (-n))) (by simp [Op.unary, Op.intArith]) (vint _ _)
    · exact .same hs (cv := .int k (k.wrap (BitVec.ofInt k.bits (if k.signed then -1 else k.max) ^^^ BitVec.ofInt k.bits n).toNat)) (by simp only [Op.unary, Op.intBits, Sem.run_pure]) (vint _ _)
  · rename_i b heq
    simp at heq; subst heq
    rw [ha.bool_inv]
    split at h <;> simp at h
    obtain ⟨rfl, rfl⟩ := h
    exact .same hs (by simp [Op.unary]) (vbool _)

theorem s_cint {s d : TypeId} {k k0 : IntKind} (h1 : P.underlying s = some (.int k0)) (h2 : P.underlying d = some (.int k)) {a : AV} {x : Value} {v : AV} {st' : Store} (h : rCint st k [a] = some (v, st')) (ha : VRel φ μ a x)
    (hs : Sim B φ μ st w) : OutV P B φ μ (convert s d x) v st' w := by
  unfold rCint at h
  split at h <;> simp at h
  rename_i heq
  simp at heq; subst heq
  obtain ⟨rfl, rfl⟩ := h
  rw [ha.int_inv]
  exact .same hs (by simp [convert, run_underlying h1, run_underlying h2, Conv.intToInt]) (vint _ _)

theorem s_cstr {s d : TypeId} (h1 : P.underlying s = some .string) (h2 : P.underlying d = some .string) {a : AV} {x : Value} {v : AV} {st' : Store} (h : rCstr st [a] = some (v, st')) (ha : VRel φ μ a x)
    (hs : Sim B φ μ st w) : OutV P B φ μ (convert s d x) v st' w := by
  unfold rCstr at h
  split at h <;> simp at h
  rename_i heq
  simp at heq; subst heq
  obtain ⟨rfl, rfl⟩ := h
  obtain ⟨b, rfl, rfl⟩ := ha.str_inv
  exact .same hs (by simp [convert, run_underlying h1, run_underlying h2]) ha

def BndO (ρ : Operand → Value) (o : Option Operand) (n d : Nat) : Prop :=
  match o with
  | none => n = d
  | some x => ∃ k i, ρ x = .int k i ∧ 0 ≤ i ∧ n = i.toNat

/-- A bound of a slice expression. -/
theorem bound_some {b : Bool} {vs : List AV} {d : Nat} {l : Nat × List AV} (h : bound b vs d = some l) {o : Option Operand} (ho : o.isSome = b) {E : Operand → AV} {ρ : Operand → Value} {rest : List Operand}
    (hv : vs = (o.toList ++ rest).map E) (hρ : ∀ x, VRel φ μ (E x) (ρ x)) :
    l.2 = rest.map E ∧ BndO ρ o l.1 d := by
  cases o with
  | none =>
    simp at ho; subst ho
    simp [bound] at h
    subst h
    exact ⟨by simpa using hv, rfl⟩
  | some x =>
    simp at ho; subst ho
    simp only [bound, if_true] at h
    simp at hv
    subst hv
    split at h <;> try (cases h; done)
    rename_i k i r heq
    simp at heq
    obtain ⟨h1, h2⟩ := heq
    split at h <;> simp at h
    rename_i h0
    subst h
    have := hρ x
    rw [h1] at this
    exact ⟨h2.symm, k, i, this.int_inv, h0, rfl⟩

theorem run_sb {k : IntKind} {i : Int} {y : Nat} {code : BoundsCode} (h0 : 0 ≤ i) (h1 : i.toNat ≤ y) : (Instr.sliceBound (.int k i) y code).run P w = .ok i.toNat w :=
  run_sliceBound w k i y code h0 (by omega)

theorem s_sstr {t : TypeId} (ht : P.underlying t = some .string) {x : Operand} {lo hi : Option Operand} {E : Operand → AV} {ρ : Operand → Value} {v : AV} {st' : Store}
    (h : rSstr st lo.isSome hi.isSome ((x :: lo.toList ++ hi.toList).map E) = some (v, st')) (hρ : ∀ x, VRel φ μ (E x) (ρ x)) (hs : Sim B φ μ st w) :
    OutV P B φ μ (Instr.sliceAt t (ρ x) (lo.map ρ) (hi.map ρ) none) v st' w := by
  simp only [List.cons_append, List.map_cons, rSstr] at h
  split at h <;> try (cases h; done)
  rename_i s vs heq
  simp only [List.cons.injEq] at heq
  obtain ⟨hx, hvs⟩ := heq
  simp only [Option.bind_eq_some_iff] at h
  obtain ⟨l, hl, m, hm, h⟩ := h
  split at h <;> simp at h
  rename_i hle
  obtain ⟨rfl, rfl⟩ := h
  obtain ⟨e1, hl⟩ := bound_some (φ := φ) (μ := μ) hl rfl hvs.symm hρ
  obtain ⟨_, hm⟩ := bound_some (φ := φ) (μ := μ) (rest := []) hm rfl (by simpa using e1) hρ
  have := hρ x
  rw [hx] at this
  obtain ⟨b, hb, rfl⟩ := this.str_inv
  rw [hb]
  have hsz : b.size = b.data.toList.length := by simp
  refine .same (cv := .string (b.extract l.1 m.1)) hs ?_ ?_
  · simp only [Instr.sliceAt, Sem.run_bind, run_underlying ht, Result.andThen_ok, Instr.slice, Instr.sliceBounds]
    cases lo <;> cases hi <;> simp only [Option.map, BndO] at hl hm ⊢
    · simp [hl, hm]
    · obtain ⟨k, i, e, h0, e'⟩ := hm
      have hle' : i.toNat ≤ b.size := by omega
      simp [e, run_sb h0 hle', hl, e']
    · obtain ⟨k, i, e, h0, e'⟩ := hl
      have hle' : i.toNat ≤ b.size := by omega
      simp [e, run_sb h0 hle', hm, e']
    · obtain ⟨k, i, e, h0, e'⟩ := hl
      obtain ⟨k2, i2, e2, h02, e2'⟩ := hm
      have hle' : i2.toNat ≤ b.size := by omega
      have hle2 : i.toNat ≤ i2.toNat := by omega
      simp [e, e2, run_sb h02 hle', run_sb h0 hle2, e', e2']
  · have := PRel.str (μ := μ) (b.extract l.1 m.1)
    have e : (b.extract l.1 m.1).data.toList = (b.data.toList.drop l.1).take (m.1 - l.1) := by
      simp [ByteArray.data_extract]
    rw [e] at this
    exact .pure this

theorem s_faddr {s : TypeId} {fs : Array Field} {k : Nat} {f : Field} {n : Nat} (hu : P.underlying s = some (.struct fs)) (hf : fs[k]? = some f) (hn : sizeA P f.type = some n) (h0 : n ≠ 0)
    {a : AV} {x : Value} {v : AV} {st' : Store} (h : rFaddr st f.offset [a] = some (v, st')) (ha : VRel φ μ a x) (hs : Sim B φ μ st w) : OutV P B φ μ (Instr.fieldAt s x k) v st' w := by
  have hz : (sizeOf f.type).run P w = .ok n w := run_sizeOf hn w
  have hrun : ∀ b o, (Instr.fieldAt s (.pointer (some ⟨b, o, none⟩)) k).run P w = .ok (.pointer (some ⟨b, o + f.offset, none⟩)) w := fun b o => by
    simp only [Instr.fieldAt, Sem.run_bind, run_underlying hu, Result.andThen_ok, hf, Instr.sureAddr, Sem.run_pure, fieldPlace, hz, if_neg h0, Addr.add_mid]
  unfold rFaddr at h
  split at h <;> simp at h <;> rename_i heq <;> simp at heq <;> subst heq <;> obtain ⟨rfl, rfl⟩ := h
  · obtain ⟨p, hp, rfl⟩ := ha.ptr_inv
    exact .same hs (hrun _ _) (by rw [Nat.add_assoc]; exact .ptr _ _ _ p hp)
  · obtain ⟨blk, base, g, hm, hr, rfl⟩ := ha.eptr_inv
    exact .same hs (hrun _ _) (by rw [Nat.add_assoc]; exact .eptr _ _ blk base g hm hr)

theorem s_field {t : TypeId} {fs : Array Field} {k : Nat} {f : Field} {l : Option Nat} (hu : P.underlying t = some (.struct fs)) (hf : fs[k]? = some f) (hl : layOf P f.type = some l)
    {a : AV} {x : Value} {v : AV} {st' : Store} (h : rField st f.offset l [a] = some (v, st')) (ha : VRel φ μ a x) (hs : Sim B φ μ st w) : OutV P B φ μ (Instr.field t x k) v st' w := by
  unfold rField at h
  split at h <;> simp at h
  rename_i cs heq
  simp at heq; subst heq
  obtain ⟨r, hr, rfl, rfl⟩ := h
  obtain ⟨vs, rfl, hsz, hc⟩ := ha.agg_inv
  obtain ⟨c, h1, h2⟩ := run_part hl hs hr hsz hc
  exact .same hs (by simp [Instr.field, run_underlying hu, hf, asAgg, h1]) h2

theorem s_ixs {t e : TypeId} {n : Nat} (hu : P.underlying t = some (.slice e)) (hn : sizeA P e = some n) {a b : AV} {x y : Value} {v : AV} {st' : Store} (h : rIxs st n [a, b] = some (v, st')) (ha : VRel φ μ a x) (hb : VRel φ μ b y)
    (hs : Sim B φ μ st w) : OutV P B φ μ (Instr.indexAt t x y) v st' w := by
  have hz : (sizeOf e).run P w = .ok n w := run_sizeOf hn w
  have hrun : ∀ (blk o len cap : Nat) (k : IntKind) (i : Int), 0 ≤ i → i < len → (Instr.indexAt t (.slice (some ⟨blk, o, none⟩) len cap) (.int k i)).run P w = .ok (.pointer (some ⟨blk, o + i.toNat * n, none⟩)) w := fun blk o len cap k i h0 h1 => by
    have : 0 ≤ i ∧ i < len := ⟨h0, h1⟩
    simp only [Instr.indexAt, Sem.run_bind, asIntOf, Sem.run_pure, Result.andThen_ok, run_underlying hu]
    by_cases hl : len ≤ 1 <;> simp [run_underlying hu, this, hz, Addr.add_mid]
  unfold rIxs at h
  split at h <;> try (cases h; done)
  · rename_i f xs k i heq
    simp at heq; obtain ⟨rfl, rfl⟩ := heq
    split at h <;> try (cases h; done)
    rename_i h0
    simp only [Option.bind_eq_some_iff] at h
    obtain ⟨el, hel, h⟩ := h
    split at h <;> simp at h
    rename_i hsz
    obtain ⟨rfl, rfl⟩ := h
    obtain ⟨hlt, hge⟩ := List.getElem?_eq_some_iff.1 hel
    rw [hb.int_inv]
    rcases ha.vsl_inv with ⟨rfl, _⟩ | ⟨blk, base, cap, esz, g, hm, hl, hr, _, _, rfl⟩
    · simp at hlt
    · have hd : xs.getD i.toNat .unk = el := by simp [List.getD, hel]
      have he := hl _ hlt
      rw [hd] at he
      obtain rfl : esz = n := by omega
      refine .same hs (hrun blk base xs.length cap k i h0 (by omega)) ?_
      have := VRel.eptr (φ := φ) (μ := μ) el 0 blk (base + i.toNat * esz) (g i.toNat) (fun j hj => hm _ _ hlt (by omega)) (fun j hj => by have := hr _ j hlt (by omega); rwa [hd] at this)
      simpa using this
  · rename_i b0 off len k i heq
    simp at heq; obtain ⟨rfl, rfl⟩ := heq
    split at h <;> try (cases h; done)
    rename_i h01
    split at h <;> try (cases h; done)
    rename_i e' xs ro hrow
    split at h <;> simp at h
    rename_i he; subst he
    obtain ⟨rfl, rfl⟩ := h
    rw [hb.int_inv]
    obtain ⟨p, hp, hcap, rfl⟩ := ha.osl_inv
    obtain ⟨q, cs, T, hr⟩ := hs.rows _ _ _ _ hrow
    obtain rfl : q = p := Option.some.inj (hr.at_.symm.trans hp)
    refine .same hs (hrun _ _ _ _ k i h01.1 h01.2) ?_
    have := VRel.ptr (φ := φ) (μ := μ) b0 (off + i.toNat) 0 q hp
    rw [hr.esz_] at this ⊢
    rw [show off * e' + i.toNat * e' = (off + i.toNat) * e' from by rw [Nat.add_mul]]
    simpa using this

theorem s_ixp {t e : TypeId} {m n : Nat} (hu : P.underlying t = some (.array m e)) (hn : sizeA P e = some n) {a b : AV} {x y : Value} {v : AV} {st' : Store} (h : rIxp st m n [a, b] = some (v, st')) (ha : VRel φ μ a x) (hb : VRel φ μ b y)
    (hs : Sim B φ μ st w) : OutV P B φ μ (Instr.indexAt t x y) v st' w := by
  have hz : (sizeOf e).run P w = .ok n w := run_sizeOf hn w
  have hrun : ∀ (blk o : Nat) (k : IntKind) (i : Int), 0 ≤ i ∧ i < m → (Instr.indexAt t (.pointer (some ⟨blk, o, none⟩)) (.int k i)).run P w = .ok (.pointer (some ⟨blk, o + i.toNat * n, none⟩)) w := fun blk o k i h01 => by
    simp only [Instr.indexAt, Sem.run_bind, asIntOf, Sem.run_pure, Result.andThen_ok, run_underlying hu, Instr.sureAddr]
    by_cases hl : m ≤ 1 <;> simp [run_underlying hu, h01, hz, Addr.add_mid, hl]
  unfold rIxp at h
  split at h <;> try (cases h; done)
  · rename_i b0 j off k i heq
    simp at heq; obtain ⟨rfl, rfl⟩ := heq
    split at h <;> simp at h
    obtain ⟨rfl, rfl⟩ := h
    rw [hb.int_inv]
    obtain ⟨p, hp, rfl⟩ := ha.ptr_inv
    refine .same hs (hrun _ _ k i (by assumption)) ?_
    rw [Nat.add_assoc]
    exact .ptr _ _ _ p hp
  · rename_i el off k i heq
    simp at heq; obtain ⟨rfl, rfl⟩ := heq
    split at h <;> simp at h
    obtain ⟨rfl, rfl⟩ := h
    rw [hb.int_inv]
    obtain ⟨blk, base, g, hm, hr, rfl⟩ := ha.eptr_inv
    refine .same hs (hrun _ _ k i (by assumption)) ?_
    rw [Nat.add_assoc]
    exact .eptr _ _ blk base g hm hr

theorem s_ixa {t e : TypeId} {m n : Nat} {l : Option Nat} (hu : P.underlying t = some (.array m e)) (hn : sizeA P e = some n) (hl : layOf P e = some l) {a b : AV} {x y : Value} {v : AV} {st' : Store} (h : rIxa st m n l [a, b] = some (v, st'))
    (ha : VRel φ μ a x) (hb : VRel φ μ b y) (hs : Sim B φ μ st w) : OutV P B φ μ (Instr.index t x y) v st' w := by
  unfold rIxa at h
  split at h <;> try (cases h; done)
  rename_i cs k i heq
  simp at heq; obtain ⟨rfl, rfl⟩ := heq
  split at h <;> simp at h
  rename_i h01
  obtain ⟨r, hr, rfl, rfl⟩ := h
  rw [hb.int_inv]
  obtain ⟨vs, rfl, hsz, hc⟩ := ha.agg_inv
  obtain ⟨c, h1, h2⟩ := run_part hl hs hr hsz hc
  exact .same hs (by simp [Instr.index, asIntOf, run_underlying hu, h01, run_sizeOf hn, h1]) h2

theorem s_ixstr {t : TypeId} (hu : P.underlying t = some .string) {a b : AV} {x y : Value} {v : AV} {st' : Store} (h : rIxstr st [a, b] = some (v, st')) (ha : VRel φ μ a x) (hb : VRel φ μ b y) (hs : Sim B φ μ st w) :
    OutV P B φ μ (Instr.index t x y) v st' w := by
  unfold rIxstr at h
  split at h <;> try (cases h; done)
  rename_i s k i heq
  simp at heq; obtain ⟨rfl, rfl⟩ := heq
  split at h <;> simp at h
  rename_i h0
  obtain ⟨c, hc, rfl, rfl⟩ := h
  rw [hb.int_inv]
  obtain ⟨bs, rfl, rfl⟩ := ha.str_inv
  have hg : bs[i.toNat]? = some c := by
    rw [Array.getElem?_toList] at hc
    obtain ⟨hlt, he⟩ := Array.getElem?_eq_some_iff.1 hc
    have hlt' : i.toNat < bs.size := hlt
    rw [getElem?_pos bs i.toNat hlt']
    exact congrArg some he
  refine .same hs (cv := .int .u8 c.toNat) ?_ (vint _ _)
  simp [Instr.index, asIntOf, run_underlying hu, h0, hg]

theorem s_extract {k : Nat} {a : AV} {x : Value} {v : AV} {st' : Store} (h : rExtract st k [a] = some (v, st')) (ha : VRel φ μ a x) (hs : Sim B φ μ st w) : OutV P B φ μ (Instr.extract x k) v st' w := by
  unfold rExtract at h
  split at h <;> simp at h
  rename_i vs heq
  simp at heq; subst heq
  obtain ⟨c, hc, rfl, rfl⟩ := h
  obtain ⟨cs, rfl, hsz, hr⟩ := ha.tup_inv
  obtain ⟨hlt, he⟩ := List.getElem?_eq_some_iff.1 hc
  have hlt' : k < cs.size := by omega
  have := hr k hlt
  refine .same hs (cv := cs[k]) ?_ (by simpa [List.getD, hc, hlt'] using this)
  simp [Instr.extract, hlt']

theorem s_lens {t ty : TypeId} (hu : P.underlying t = some .string) {a : AV} {x : Value} {v : AV} {st' : Store} (h : rLens st [a] = some (v, st')) (ha : VRel φ μ a x) (hs : Sim B φ μ st w) :
    OutV P B φ μ (Builtin.len_ #[t] ty #[x]) v st' w := by
  unfold rLens at h
  split at h <;> simp at h
  rename_i heq
  simp at heq; subst heq
  obtain ⟨rfl, rfl⟩ := h
  obtain ⟨b, rfl, rfl⟩ := ha.str_inv
  exact .same hs (cv := .int .i64 b.size) (by simp [Builtin.len_, run_underlying hu, goInt]) (by simpa [int64] using vint (φ := φ) (μ := μ) .i64 b.data.size)

theorem s_len {t ty e : TypeId} (hu : P.underlying t = some (.slice e)) {a : AV} {x : Value} {v : AV} {st' : Store} (h : rLen st [a] = some (v, st')) (ha : VRel φ μ a x) (hs : Sim B φ μ st w) :
    OutV P B φ μ (Builtin.len_ #[t] ty #[x]) v st' w := by
  have hsl : ∀ b l c, (Builtin.len_ #[t] ty #[.slice b l c]).run P w = .ok (.int .i64 l) w := fun b l c => by
    simp [Builtin.len_, run_underlying hu, goInt]
  unfold rLen at h
  split at h <;> simp at h <;> rename_i heq <;> simp at heq <;> subst heq <;> obtain ⟨rfl, rfl⟩ := h
  · rcases ha.vsl_inv with ⟨rfl, rfl⟩ | ⟨_, _, _, _, _, _, _, _, _, _, rfl⟩
    · exact .same hs (hsl _ _ _) (vint _ _)
    · exact .same hs (hsl _ _ _) (vint _ _)
  · rw [ha.nils_inv]
    exact .same hs (hsl _ _ _) (vint _ _)
  · obtain ⟨p, _, _, rfl⟩ := ha.osl_inv
    exact .same hs (hsl _ _ _) (vint _ _)

theorem s_min2 {ts : Array TypeId} {ty : TypeId} {a b : AV} {x y : Value} {v : AV} {st' : Store} (h : rMin2 st [a, b] = some (v, st')) (ha : VRel φ μ a x) (hb : VRel φ μ b y) (hs : Sim B φ μ st w) :
    OutV P B φ μ (Builtin.min_ ts ty #[x, y]) v st' w := by
  unfold rMin2 at h
  split at h <;> try (cases h; done)
  rename_i k a' k' b' heq
  simp at heq; obtain ⟨rfl, rfl⟩ := heq
  split at h <;> simp at h
  rename_i hk; subst hk
  obtain ⟨rfl, rfl⟩ := h
  rw [ha.int_inv, hb.int_inv]
  exact .same hs (by simp [Builtin.min_, Builtin.min2]) (vint _ _)

theorem s_max2 {ts : Array TypeId} {ty : TypeId} {a b : AV} {x y : Value} {v : AV} {st' : Store} (h : rMax2 st [a, b] = some (v, st')) (ha : VRel φ μ a x) (hb : VRel φ μ b y) (hs : Sim B φ μ st w) :
    OutV P B φ μ (Builtin.max_ ts ty #[x, y]) v st' w := by
  unfold rMax2 at h
  split at h <;> try (cases h; done)
  rename_i k a' k' b' heq
  simp at heq; obtain ⟨rfl, rfl⟩ := heq
  split at h <;> simp at h
  rename_i hk; subst hk
  obtain ⟨rfl, rfl⟩ := h
  rw [ha.int_inv, hb.int_inv]
  exact .same hs (by simp [Builtin.max_, Builtin.max2]) (vint _ _)

end
end Go.Proofs.Ago
