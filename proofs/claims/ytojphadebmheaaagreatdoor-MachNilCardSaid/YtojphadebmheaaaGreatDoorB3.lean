/- What an abstract value says of a value in memory; what a store says of a world. -/
import Derived.Test.YtojphadebmheaaaGreatDoorB2
namespace Go.Proofs.Ago
open Go

structure Place where
  blk : Nat
  cap : Nat
  esz : Nat

abbrev Phi := Nat → Option Place
abbrev Mu := Nat → Nat → Option Value

/-- Plain data: what it rests on in memory (μ) is never written. -/
inductive PRel (μ : Mu) : AV → Value → Prop
  | bool (b : Bool) : PRel μ (.bool b) (.bool b)
  | int (k : IntKind) (n : Int) : PRel μ (.int k n) (.int k n)
  | str (s : ByteArray) : PRel μ (.str s.data.toList) (.string s)
  | flt (k : FloatKind) (n : Nat) : PRel μ (.flt k n) (.float k n)
  | cpx (k : FloatKind) (a b : Nat) : PRel μ (.cpx k a b) (.complex k a b)
  | nilp : PRel μ .nilp (.pointer none)
  | nils : PRel μ .nils (.slice none 0 0)
  | nilf : PRel μ .nilf .nilFunc
  | nili : PRel μ .nili .nilIface
  | vnil (f : Bool) : PRel μ (.vsl f []) (.slice none 0 0)
  | vsl (f : Bool) (xs : List AV) (blk base cap esz : Nat) (c : Nat → Nat → Value)
      (hm : ∀ i j, i < xs.length → j < esz → μ blk (base + i * esz + j) = some (c i j))
      (hl : ∀ i, i < xs.length → (xs.getD i .unk).cells.length = esz)
      (hr : ∀ i j, i < xs.length → j < esz → PRel μ ((xs.getD i .unk).cells.getD j .unk) (c i j))
      (hf : f = true → cap = xs.length) (hc : xs.length ≤ cap) :
      PRel μ (.vsl f xs) (.slice (some ⟨blk, base, none⟩) xs.length cap)
  | agg (cs : List AV) (vs : Array Value) (hl : vs.size = cs.length) (h : ∀ i, i < cs.length → PRel μ (cs.getD i .unk) (vs.getD i undef)) :
      PRel μ (.agg cs) (.agg vs)
  | tup (cs : List AV) (vs : Array Value) (hl : vs.size = cs.length) (h : ∀ i, i < cs.length → PRel μ (cs.getD i .unk) (vs.getD i undef)) :
      PRel μ (.tup cs) (.tuple vs)
  | fn (f : Fn) (a b : List AV) (as bs : Array Value) (hla : as.size = a.length) (hlb : bs.size = b.length)
      (ha : ∀ i, i < a.length → PRel μ (a.getD i .unk) (as.getD i undef)) (hb : ∀ i, i < b.length → PRel μ (b.getD i .unk) (bs.getD i undef)) :
      PRel μ (.fn f a b) (.func f as bs)
  | ifc (t : Nat) (v : AV) (c : Value) (h : PRel μ v c) : PRel μ (.ifc t v) (.iface t c)
  | opq (r : Option Nat) : PRel μ .opq (.map r)
  | unk (c : Value) : PRel μ .unk c

/-- Values, with handles of the store in them. -/
inductive VRel (φ : Phi) (μ : Mu) : AV → Value → Prop
  | pure {v : AV} {c : Value} (h : PRel μ v c) : VRel φ μ v c
  | ptr (b i off : Nat) (p : Place) (h : φ b = some p) : VRel φ μ (.ptr b i off) (.pointer (some ⟨p.blk, i * p.esz + off, none⟩))
  | eptr (v : AV) (off blk base : Nat) (c : Nat → Value) (hm : ∀ j, j < v.cells.length → μ blk (base + j) = some (c j))
      (hr : ∀ j, j < v.cells.length → PRel μ (v.cells.getD j .unk) (c j)) : VRel φ μ (.eptr v off) (.pointer (some ⟨blk, base + off, none⟩))
  | osl (b off len : Nat) (p : Place) (h : φ b = some p) (hl : off + len ≤ p.cap) : VRel φ μ (.osl b off len) (.slice (some ⟨p.blk, off * p.esz, none⟩) len (p.cap - off))
  | asl (b i off len cap : Nat) (p : Place) (h : φ b = some p) : VRel φ μ (.asl b i off len) (.slice (some ⟨p.blk, i * p.esz + off, none⟩) len cap)
  | agg (cs : List AV) (vs : Array Value) (hl : vs.size = cs.length) (h : ∀ i, i < cs.length → VRel φ μ (cs.getD i .unk) (vs.getD i undef)) :
      VRel φ μ (.agg cs) (.agg vs)
  | tup (cs : List AV) (vs : Array Value) (hl : vs.size = cs.length) (h : ∀ i, i < cs.length → VRel φ μ (cs.getD i .unk) (vs.getD i undef)) :
      VRel φ μ (.tup cs) (.tuple vs)
  | fn (f : Fn) (a b : List AV) (as bs : Array Value) (hla : as.size = a.length) (hlb : bs.size = b.length)
      (ha : ∀ i, i < a.length → VRel φ μ (a.getD i .unk) (as.getD i undef)) (hb : ∀ i, i < b.length → VRel φ μ (b.getD i .unk) (bs.getD i undef)) :
      VRel φ μ (.fn f a b) (.func f as bs)
  | ifc (t : Nat) (v : AV) (c : Value) (h : VRel φ μ v c) : VRel φ μ (.ifc t v) (.iface t c)

structure Ext (φ : Phi) (μ : Mu) (φ' : Phi) (μ' : Mu) : Prop where
  phi : ∀ i p, φ i = some p → φ' i = some p
  mu : ∀ b o v, μ b o = some v → μ' b o = some v

theorem Ext.refl (φ : Phi) (μ : Mu) : Ext φ μ φ μ := ⟨fun _ _ h => h, fun _ _ _ h => h⟩
theorem Ext.trans {φ φ' φ'' : Phi} {μ μ' μ'' : Mu} (h : Ext φ μ φ' μ') (h' : Ext φ' μ' φ'' μ'') : Ext φ μ φ'' μ'' :=
  ⟨fun i p q => h'.phi i p (h.phi i p q), fun b o v q => h'.mu b o v (h.mu b o v q)⟩

theorem PRel.mono {μ μ' : Mu} (hμ : ∀ b o v, μ b o = some v → μ' b o = some v) {v : AV} {c : Value} (h : PRel μ v c) : PRel μ' v c := by
  induction h with
  | bool b => exact .bool b
  | int k n => exact .int k n
  | str s => exact .str s
  | flt k n => exact .flt k n
  | cpx k a b => exact .cpx k a b
  | nilp => exact .nilp
  | nils => exact .nils
  | nilf => exact .nilf
  | nili => exact .nili
  | vnil f => exact .vnil f
  | vsl f xs blk base cap esz c hm hl _ hf hc ih => exact .vsl f xs blk base cap esz c (fun i j hi hj => hμ _ _ _ (hm i j hi hj)) hl ih hf hc
  | agg cs vs hl _ ih => exact .agg cs vs hl ih
  | tup cs vs hl _ ih => exact .tup cs vs hl ih
  | fn f a b as bs hla hlb _ _ iha ihb => exact .fn f a b as bs hla hlb iha ihb
  | ifc t v c _ ih => exact .ifc t v c ih
  | opq r => exact .opq r
  | unk c => exact .unk c

theorem VRel.mono {φ φ' : Phi} {μ μ' : Mu} (he : Ext φ μ φ' μ') {v : AV} {c : Value} (h : VRel φ μ v c) : VRel φ' μ' v c := by
  induction h with
  | pure h => exact .pure (h.mono he.mu)
  | ptr b i off p h => exact .ptr b i off p (he.phi _ _ h)
  | eptr v off blk base c hm hr => exact .eptr v off blk base c (fun j hj => he.mu _ _ _ (hm j hj)) (fun j hj => (hr j hj).mono he.mu)
  | osl b off len p h hl => exact .osl b off len p (he.phi _ _ h) hl
  | asl b i off len cap p h => exact .asl b i off len cap p (he.phi _ _ h)
  | agg cs vs hl _ ih => exact .agg cs vs hl ih
  | tup cs vs hl _ ih => exact .tup cs vs hl ih
  | fn f a b as bs hla hlb _ _ iha ihb => exact .fn f a b as bs hla hlb iha ihb
  | ifc t v c _ ih => exact .ifc t v c ih

/-! ### What a relation says of a value, by the abstract value's form -/
section inv
variable {φ : Phi} {μ : Mu} {c : Value}

theorem VRel.bool_inv {b : Bool} (h : VRel φ μ (.bool b) c) : c = .bool b := by cases h with | pure h => cases h; rfl
theorem VRel.int_inv {k : IntKind} {n : Int} (h : VRel φ μ (.int k n) c) : c = .int k n := by cases h with | pure h => cases h; rfl
theorem VRel.str_inv {s : List UInt8} (h : VRel φ μ (.str s) c) : ∃ b : ByteArray, c = .string b ∧ b.data.toList = s := by
  cases h with | pure h => cases h; exact ⟨_, rfl, rfl⟩
theorem VRel.nilp_inv (h : VRel φ μ .nilp c) : c = .pointer none := by cases h with | pure h => cases h; rfl
theorem VRel.nils_inv (h : VRel φ μ .nils c) : c = .slice none 0 0 := by cases h with | pure h => cases h; rfl
theorem VRel.ptr_inv {b i off : Nat} (h : VRel φ μ (.ptr b i off) c) : ∃ p, φ b = some p ∧ c = .pointer (some ⟨p.blk, i * p.esz + off, none⟩) := by
  cases h with
  | pure h => cases h
  | ptr _ _ _ p h => exact ⟨p, h, rfl⟩
theorem VRel.osl_inv {b off len : Nat} (h : VRel φ μ (.osl b off len) c) :
    ∃ p, φ b = some p ∧ off + len ≤ p.cap ∧ c = .slice (some ⟨p.blk, off * p.esz, none⟩) len (p.cap - off) := by
  cases h with
  | pure h => cases h
  | osl _ _ _ p h hl => exact ⟨p, h, hl, rfl⟩
theorem VRel.asl_inv {b i off len : Nat} (h : VRel φ μ (.asl b i off len) c) : ∃ p cap, φ b = some p ∧ c = .slice (some ⟨p.blk, i * p.esz + off, none⟩) len cap := by
  cases h with
  | pure h => cases h
  | asl _ _ _ _ cap p h => exact ⟨p, cap, h, rfl⟩
theorem VRel.eptr_inv {v : AV} {off : Nat} (h : VRel φ μ (.eptr v off) c) :
    ∃ (blk base : Nat) (f : Nat → Value), (∀ j, j < v.cells.length → μ blk (base + j) = some (f j)) ∧ (∀ j, j < v.cells.length → PRel μ (v.cells.getD j .unk) (f j)) ∧ c = .pointer (some ⟨blk, base + off, none⟩) := by
  cases h with
  | pure h => cases h
  | eptr _ _ blk base c hm hr => exact ⟨blk, base, c, hm, hr, rfl⟩
theorem VRel.agg_inv {cs : List AV} (h : VRel φ μ (.agg cs) c) : ∃ vs : Array Value, c = .agg vs ∧ vs.size = cs.length ∧ ∀ i, i < cs.length → VRel φ μ (cs.getD i .unk) (vs.getD i undef) := by
  cases h with
  | pure h => cases h with | agg _ vs hl h => exact ⟨vs, rfl, hl, fun i hi => .pure (h i hi)⟩
  | agg _ vs hl h => exact ⟨vs, rfl, hl, h⟩
theorem VRel.tup_inv {cs : List AV} (h : VRel φ μ (.tup cs) c) : ∃ vs : Array Value, c = .tuple vs ∧ vs.size = cs.length ∧ ∀ i, i < cs.length → VRel φ μ (cs.getD i .unk) (vs.getD i undef) := by
  cases h with
  | pure h => cases h with | tup _ vs hl h => exact ⟨vs, rfl, hl, fun i hi => .pure (h i hi)⟩
  | tup _ vs hl h => exact ⟨vs, rfl, hl, h⟩
theorem VRel.fn_inv {f : Fn} {a b : List AV} (h : VRel φ μ (.fn f a b) c) : ∃ as bs : Array Value, c = .func f as bs ∧ as.size = a.length ∧ bs.size = b.length ∧
    (∀ i, i < a.length → VRel φ μ (a.getD i .unk) (as.getD i undef)) ∧ (∀ i, i < b.length → VRel φ μ (b.getD i .unk) (bs.getD i undef)) := by
  cases h with
  | pure h => cases h with | fn _ _ _ as bs hla hlb ha hb => exact ⟨as, bs, rfl, hla, hlb, fun i hi => .pure (ha i hi), fun i hi => .pure (hb i hi)⟩
  | fn _ _ _ as bs hla hlb ha hb => exact ⟨as, bs, rfl, hla, hlb, ha, hb⟩
theorem VRel.ifc_inv {t : Nat} {v : AV} (h : VRel φ μ (.ifc t v) c) : ∃ d, c = .iface t d ∧ VRel φ μ v d := by
  cases h with
  | pure h => cases h with | ifc _ _ d h => exact ⟨d, rfl, .pure h⟩
  | ifc _ _ d h => exact ⟨d, rfl, h⟩
/-- A slice of plain elements: nil, or cells that stay. -/
theorem VRel.vsl_inv {f : Bool} {xs : List AV} (h : VRel φ μ (.vsl f xs) c) :
    (xs = [] ∧ c = .slice none 0 0) ∨
    ∃ (blk base cap esz : Nat) (g : Nat → Nat → Value), (∀ i j, i < xs.length → j < esz → μ blk (base + i * esz + j) = some (g i j)) ∧ (∀ i, i < xs.length → (xs.getD i .unk).cells.length = esz) ∧
      (∀ i j, i < xs.length → j < esz → PRel μ ((xs.getD i .unk).cells.getD j .unk) (g i j)) ∧ (f = true → cap = xs.length) ∧ xs.length ≤ cap ∧
      c = .slice (some ⟨blk, base, none⟩) xs.length cap := by
  cases h with
  | pure h => cases h with
    | vnil f => exact .inl ⟨rfl, rfl⟩
    | vsl _ _ blk base cap esz g hm hl hr hf hc => exact .inr ⟨blk, base, cap, esz, g, hm, hl, hr, hf, hc, rfl⟩
end inv

theorem VRel.one {φ : Phi} {μ : Mu} {v : AV} {c : Value} (h : VRel φ μ v c) (h1 : v.one = true) : c.oneCell' = true ∧ c.cells = #[c] := by
  cases h with
  | pure h => cases h <;> first | exact ⟨rfl, rfl⟩ | (simp [AV.one] at h1)
  | agg => simp [AV.one] at h1
  | tup => simp [AV.one] at h1
  | _ => exact ⟨rfl, rfl⟩

theorem VRel.cells {φ : Phi} {μ : Mu} {v : AV} {c : Value} (h : VRel φ μ v c) (h1 : v.cells.all AV.one = true) :
    c.cells.size = v.cells.length ∧ (∀ j, j < v.cells.length → VRel φ μ (v.cells.getD j .unk) (c.cells.getD j undef)) ∧ (∀ x ∈ c.cells.toList, x.oneCell' = true) := by
  by_cases ha : ∃ cs, v = .agg cs
  · obtain ⟨cs, rfl⟩ := ha
    obtain ⟨vs, rfl, hl, hr⟩ := h.agg_inv
    refine ⟨hl, hr, fun x hx => ?_⟩
    obtain ⟨i, hi, rfl⟩ := List.getElem_of_mem hx
    have hi' : i < vs.size := by simpa [Value.cells] using hi
    have := hr i (by omega)
    have h2 : cs.getD i .unk = cs[i]'(by omega) := by simp [List.getD, List.getElem?_eq_getElem (show i < cs.length by omega)]
    rw [h2] at this
    have h3 : (cs[i]'(by omega)).one = true := by
      have := List.all_eq_true.1 h1 (cs[i]'(by omega)) (by simp [AV.cells])
      exact this
    have h4 := (this.one h3).1
    simpa [Value.cells, hi'] using h4
  · have hc : v.cells = [v] := by cases v <;> first | rfl | exact absurd ⟨_, rfl⟩ ha
    rw [hc] at h1 ⊢
    simp at h1
    obtain ⟨ho, hcc⟩ := h.one h1
    rw [hcc]
    refine ⟨rfl, fun j hj => ?_, fun x hx => ?_⟩
    · have : j = 0 := by simpa using hj
      subst this; simpa using h
    · simp at hx; subst hx; exact ho

theorem absV_rel (μ : Mu) (v : Value) : PRel μ (absV v) v := by
  cases v with
  | bool b => exact .bool b
  | int k n => exact .int k n
  | float k n => exact .flt k n
  | complex k a b => exact .cpx k a b
  | string s => exact .str s
  | pointer a => cases a with
    | none => exact .nilp
    | some a => exact .unk _
  | slice a l c =>
    unfold absV
    split <;> first | exact .unk _ | (rename_i h; cases h; exact .nils) | (simp_all; done) | skip
    all_goals (rename_i h; injection h with h1 h2 h3; subst h1; subst h2; subst h3; exact .nils)
  | map r => exact .opq _
  | chan r => exact .unk _
  | func f a b => exact .unk _
  | nilFunc => exact .nilf
  | iface t v => exact .unk _
  | nilIface => exact .nili
  | agg cs =>
    refine .agg _ cs (by simp) fun i hi => ?_
    simp at hi
    have hg : ∀ f : Value → AV, (cs.toList.map f).getD i .unk = f (cs[i]'hi) := fun f => by simp [List.getD, hi]
    have hc : cs.getD i undef = cs[i]'hi := by simp [hi]
    rw [hg, hc]
    generalize cs[i]'hi = c
    split <;> first | exact .bool _ | exact .int _ _ | exact .flt _ _ | exact .cpx _ _ _ | exact .str _ | exact .nilp | exact .nils | exact .nilf | exact .nili | exact .opq _ | exact .unk _
  | tuple cs =>
    show PRel μ (if cs.size = 0 then .tup [] else .unk) (.tuple cs)
    split
    · rename_i h; exact .tup [] _ h (fun i hi => by simp at hi)
    · exact .unk _

end Go.Proofs.Ago
