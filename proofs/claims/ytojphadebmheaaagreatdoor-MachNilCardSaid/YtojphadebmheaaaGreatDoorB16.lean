/- Operations that do not meddle with each other may change places. -/
import Derived.Test.YtojphadebmheaaaGreatDoorB15
namespace Go.Proofs.Ago
open Go
variable {P : Program} {M : Nat → Nat}

/-- An operation on values that neither looks at the store nor changes it. -/
def Still0 (f : Store → Option (AV × Store)) : Prop := ∀ st v st', f st = some (v, st') → st' = st ∧ ∀ st2, f st2 = some (v, st2)

theorem Still0.of_map {o : Option AV} : Still0 fun st => o.map fun v => (v, st) := fun st v st' h => by
  cases o with
  | none => simp at h
  | some a => simp at h; obtain ⟨rfl, rfl⟩ := h; exact ⟨rfl, fun _ => rfl⟩

theorem rop_still0 (sl : Option Nat) (r : ROp) (vs : List AV) (hk : primKind r = 0) (hq : okQ r vs = true) : Still0 (rop sl r vs) := by
  intro st v st' h
  cases r <;> simp only [primKind] at hk <;> try (cases hk; done)
  case mov => simp only [rop] at h ⊢; unfold rMov at h ⊢; split at h <;> simp_all
  case pick => simp only [rop] at h ⊢; unfold rPick at h ⊢; split at h <;> simp_all
  case build z pl =>
    simp only [rop] at h ⊢; unfold rBuild at h ⊢
    split at h <;> try (cases h; done)
    rename_i hc
    simp only [Option.map_eq_some_iff, Prod.mk.injEq] at h
    obtain ⟨cs, hcs, rfl, rfl⟩ := h
    refine ⟨rfl, fun st2 => ?_⟩
    rw [if_pos hc, hcs]; rfl
  case bslice esz z n ix =>
    simp only [rop] at h ⊢; unfold rBslice at h ⊢
    simp only [okQ] at hq
    split at h
    · rename_i hc
      simp only [hq, if_true] at h ⊢
      injection h with h; injection h with h1 h2; subst h1; subst h2
      exact ⟨rfl, fun st2 => by rw [if_pos hc]⟩
    · rename_i hc
      split at h <;> try (cases h; done)
      rename_i hc2
      injection h with h; injection h with h1 h2; subst h1; subst h2
      exact ⟨rfl, fun st2 => by rw [if_neg hc, if_pos hc2]⟩
  case nilchk => simp only [rop] at h ⊢; unfold rNilchk at h ⊢; split at h <;> simp_all
  case bin op =>
    simp only [rop] at h ⊢; unfold rBin at h ⊢
    split at h <;> try (cases h; done)
    exact Still0.of_map _ _ _ h
  case eqb neg => simp only [rop] at h ⊢; unfold rEqb at h ⊢; split at h <;> simp_all
  case eqp neg => simp only [rop] at h ⊢; unfold rEqp at h ⊢; split at h <;> simp_all
  case eqs neg => simp only [rop] at h ⊢; unfold rEqs at h ⊢; split at h <;> simp_all
  case eqc neg n offs =>
    simp only [rop] at h ⊢; unfold rEqc at h ⊢
    split at h <;> try (cases h; done)
    split at h <;> try (cases h; done)
    rename_i hc
    simp only [Option.map_eq_some_iff, Prod.mk.injEq] at h
    obtain ⟨cs, hcs, rfl, rfl⟩ := h
    refine ⟨rfl, fun st2 => ?_⟩
    simp only [if_pos hc, hcs, Option.map_some]
  case un op => simp only [rop] at h ⊢; unfold rUn at h ⊢; split at h <;> try (cases h; done)
                all_goals (split at h <;> simp_all)
  case cint k => simp only [rop] at h ⊢; unfold rCint at h ⊢; split at h <;> simp_all
  case cstr => simp only [rop] at h ⊢; unfold rCstr at h ⊢; split at h <;> simp_all
  case sstr lo hi =>
    simp only [rop] at h ⊢; unfold rSstr at h ⊢
    split at h <;> try (cases h; done)
    simp only [Option.bind_eq_some_iff] at h
    obtain ⟨l, hl, m, hm, h⟩ := h
    split at h <;> try (cases h; done)
    rename_i hc
    injection h with h; injection h with h1 h2; subst h1; subst h2
    refine ⟨rfl, fun st2 => ?_⟩
    simp only [hl, hm, Option.bind_some, if_pos hc]
  case faddr o => simp only [rop] at h ⊢; unfold rFaddr at h ⊢; split at h <;> simp_all
  case sla n lo hi =>
    simp only [rop] at h ⊢; unfold rSla at h ⊢
    split at h <;> try (cases h; done)
    simp only [Option.bind_eq_some_iff] at h
    obtain ⟨l, hl, m, hm, h⟩ := h
    split at h <;> try (cases h; done)
    rename_i hc
    injection h with h; injection h with h1 h2; subst h1; subst h2
    refine ⟨rfl, fun st2 => ?_⟩
    simp only [hl, hm, Option.bind_some, if_pos hc]
  case field off n =>
    simp only [rop] at h ⊢; unfold rField at h ⊢
    split at h <;> try (cases h; done)
    exact Still0.of_map _ _ _ h
  case ixp n esz => simp only [rop] at h ⊢; unfold rIxp at h ⊢; split at h <;> try (cases h; done)
                    all_goals (split at h <;> simp_all)
  case ixa n esz l =>
    simp only [rop] at h ⊢; unfold rIxa at h ⊢
    split at h <;> try (cases h; done)
    split at h <;> try (cases h; done)
    rename_i hc
    simp only [Option.map_eq_some_iff, Prod.mk.injEq] at h
    obtain ⟨cs, hcs, rfl, rfl⟩ := h
    refine ⟨rfl, fun st2 => ?_⟩
    simp only [if_pos hc, hcs, Option.map_some]
  case ixstr =>
    simp only [rop] at h ⊢; unfold rIxstr at h ⊢
    split at h <;> try (cases h; done)
    split at h <;> try (cases h; done)
    rename_i hc
    simp only [Option.map_eq_some_iff, Prod.mk.injEq] at h
    obtain ⟨cs, hcs, rfl, rfl⟩ := h
    refine ⟨rfl, fun st2 => ?_⟩
    simp only [if_pos hc, hcs, Option.map_some]
  case extract i =>
    simp only [rop] at h ⊢; unfold rExtract at h ⊢
    split at h <;> try (cases h; done)
    exact Still0.of_map _ _ _ h
  case lens => simp only [rop] at h ⊢; unfold rLens at h ⊢; split at h <;> simp_all
  case len => simp only [rop] at h ⊢; unfold rLen at h ⊢; split at h <;> simp_all
  case lenK n => simp only [rop] at h ⊢; unfold rLenK at h ⊢; split at h <;> simp_all
  case min2 => simp only [rop] at h ⊢; unfold rMin2 at h ⊢; split at h <;> try (cases h; done)
               split at h <;> simp_all
  case max2 => simp only [rop] at h ⊢; unfold rMax2 at h ⊢; split at h <;> try (cases h; done)
               split at h <;> simp_all
  case mkIface t => simp only [rop] at h ⊢; unfold rMkIface at h ⊢; split at h <;> simp_all
  case mkfn f nf => simp only [rop] at h ⊢; simp_all
  case mkMap => simp only [rop] at h ⊢; simp_all
  case usd => simp only [rop] at h ⊢; unfold rUsd at h ⊢; split at h <;> try (cases h; done)
              · split at h <;> simp_all
              · simp_all

theorem rop_still1 (sl : Option Nat) (r : ROp) (vs : List AV) (hk : primKind r = 1) {st st' : Store} {v : AV} (h : rop sl r vs st = some (v, st')) : st' = st := by
  cases r <;> simp only [primKind] at hk <;> try (cases hk; done)
  case load n =>
    simp only [rop] at h; unfold rLoad at h
    split at h <;> try (cases h; done)
    · split at h <;> try (cases h; done)
      simp only [Option.bind_eq_some_iff, Option.map_eq_some_iff, Prod.mk.injEq] at h
      obtain ⟨_, _, _, _, _, h⟩ := h; exact h.symm
    · simp only [Option.map_eq_some_iff, Prod.mk.injEq] at h
      obtain ⟨_, _, _, h⟩ := h; exact h.symm
  case cbs =>
    simp only [rop] at h; unfold rCbs at h
    split at h <;> try (cases h; done)
    simp only [Option.bind_eq_some_iff, Option.map_eq_some_iff, Prod.mk.injEq] at h
    obtain ⟨_, _, _, _, _, h⟩ := h; exact h.symm
  case cvp =>
    simp only [rop] at h; unfold rCvp at h
    split at h <;> try (cases h; done)
    split at h <;> try (cases h; done)
    simp only [Option.bind_eq_some_iff] at h
    obtain ⟨_, _, h⟩ := h
    split at h <;> simp at h
    exact h.2.symm
  case cvu l =>
    simp only [rop] at h; unfold rCvu at h
    split at h <;> try (cases h; done)
    split at h <;> try (cases h; done)
    split at h <;> simp at h
    exact h.2.symm
  case ixs esz =>
    simp only [rop] at h; unfold rIxs at h
    split at h <;> try (cases h; done)
    · split at h <;> try (cases h; done)
      simp only [Option.bind_eq_some_iff] at h
      obtain ⟨_, _, h⟩ := h
      split at h <;> simp at h
      exact h.2.symm
    · split at h <;> try (cases h; done)
      split at h <;> try (cases h; done)
      split at h <;> simp at h
      exact h.2.symm
  case ssl esz lo hi mx =>
    simp only [rop] at h; unfold rSsl at h
    split at h <;> try (cases h; done)
    · simp only [Option.bind_eq_some_iff] at h
      obtain ⟨_, _, _, _, _, _, h⟩ := h
      split at h <;> simp at h
      exact h.2.symm
    · simp only [Option.bind_eq_some_iff] at h
      obtain ⟨_, _, _, _, _, _, h⟩ := h
      split at h <;> simp at h
      exact h.2.symm
    · simp only [Option.bind_eq_some_iff] at h
      obtain ⟨_, _, _, _, h⟩ := h
      split at h <;> try (cases h; done)
      split at h <;> try (cases h; done)
      split at h
      · simp only [Option.bind_eq_some_iff] at h
        obtain ⟨_, _, h⟩ := h
        split at h <;> simp at h
        exact h.2.symm
      · split at h <;> try (cases h; done)
        split at h <;> simp at h <;> exact h.2.symm

def applyU (l : List (Nat × Blk)) (st : Store) : Store := l.foldl (fun s p => s.set p.1 p.2) st

def LocalAt (st : Store) (R W : List Nat) (f : Store → Option (AV × Store)) : Prop :=
  ∀ v st', f st = some (v, st') → ∃ ups : List (Nat × Blk), (∀ p ∈ ups, p.1 ∈ W) ∧ st' = applyU ups st ∧ ∀ st2 : Store, (∀ b, b ∈ R ∨ b ∈ W → st2[b]? = st[b]?) → f st2 = some (v, applyU ups st2)

/-- A pure call: of plain arguments it neither looks at the store nor changes it; else it meets the rows of its arguments. -/
structure CallPure (M : Nat → Nat) (call : CallF) : Prop where
  still : ∀ f args, M f ≠ 0 → AV.pure.pureL args = true → Still0 (call f args)
  loc : ∀ f args st, M f = 1 → LocalAt st (touchL args st) (touchL args st) (call f args)

theorem exec1_still0 {call : CallF} {b : Nat} {hid : List Nat} {o : Oper} (hk : kindOf P M o = 0) (E : Env) : Still0 fun st => exec1 P M (some b) hid call E st o := by
  intro st v st' h
  unfold kindOf at hk
  unfold exec1 at h ⊢
  cases hr : resOp P o.op with
  | none => simp [hr] at hk
  | some x =>
    obtain ⟨k, xs⟩ := x
    simp only [hr] at hk h ⊢
    cases k with
    | prim r =>
      simp only [Option.isSome_some, Bool.true_and] at h hk ⊢
      split at h <;> try (cases h; done)
      rename_i hq
      simp only [hq, Bool.false_eq_true, if_false]
      exact rop_still0 _ r _ hk (by simpa using hq) st v st' h
    | call f => cases hk
    | clos => cases hk

theorem exec1_still1 {call : CallF} {q : Option Nat} {hid : List Nat} {o : Oper} (hk : kindOf P M o = 1) {E : Env} {st st' : Store} {v : AV} (h : exec1 P M q hid call E st o = some (v, st')) : st' = st := by
  unfold kindOf at hk
  unfold exec1 at h
  cases hr : resOp P o.op with
  | none => simp [hr] at hk
  | some x =>
    obtain ⟨k, xs⟩ := x
    simp only [hr] at hk h
    cases k with
    | prim r =>
      simp only at h hk
      split at h <;> try (cases h; done)
      exact rop_still1 _ r _ hk h
    | call f => cases hk
    | clos => cases hk

/-! ### Operations that look and write where they say -/

theorem applyU_get {b : Nat} : ∀ {l : List (Nat × Blk)}, (∀ p ∈ l, p.1 ≠ b) → ∀ st : Store, (applyU l st)[b]? = st[b]?
  | [], _, st => rfl
  | p :: l, h, st => by
    show (applyU l (st.set p.1 p.2))[b]? = _
    rw [applyU_get (fun q hq => h q (List.mem_cons_of_mem _ hq)), List.getElem?_set_ne (h p (List.mem_cons_self ..))]

theorem applyU_set {k : Nat} {b : Blk} : ∀ {l : List (Nat × Blk)}, (∀ p ∈ l, p.1 ≠ k) → ∀ st : Store, applyU l (st.set k b) = (applyU l st).set k b
  | [], _, st => rfl
  | p :: l, h, st => by
    show applyU l ((st.set k b).set p.1 p.2) = (applyU l (st.set p.1 p.2)).set k b
    rw [List.set_comm _ _ (Ne.symm (h p (List.mem_cons_self ..))), applyU_set (fun q hq => h q (List.mem_cons_of_mem _ hq))]

theorem applyU_comm {m : List (Nat × Blk)} : ∀ {l : List (Nat × Blk)}, (∀ p ∈ l, ∀ q ∈ m, q.1 ≠ p.1) → ∀ st : Store, applyU m (applyU l st) = applyU l (applyU m st)
  | [], _, st => rfl
  | p :: l, h, st => by
    show applyU m (applyU l (st.set p.1 p.2)) = applyU l ((applyU m st).set p.1 p.2)
    rw [applyU_comm (fun q hq => h q (List.mem_cons_of_mem _ hq)), applyU_set (h p (List.mem_cons_self ..))]

theorem applyU_congr {b : Nat} : ∀ {l : List (Nat × Blk)} {st st2 : Store}, st2[b]? = st[b]? → (applyU l st2)[b]? = (applyU l st)[b]?
  | [], st, st2, h => h
  | p :: l, st, st2, h => by
    show (applyU l (st2.set p.1 p.2))[b]? = (applyU l (st.set p.1 p.2))[b]?
    refine applyU_congr ?_
    by_cases hb : p.1 = b
    · subst hb
      rcases Nat.lt_or_ge p.1 st.length with h1 | h1 <;> rcases Nat.lt_or_ge p.1 st2.length with h2 | h2
      · rw [List.getElem?_set_self h1, List.getElem?_set_self h2]
      · rw [List.getElem?_eq_none h2, List.getElem?_eq_getElem h1] at h; cases h
      · rw [List.getElem?_eq_none h1, List.getElem?_eq_getElem h2] at h; cases h
      · rw [List.getElem?_eq_none (by rw [List.length_set]; exact h2), List.getElem?_eq_none (by rw [List.length_set]; exact h1)]
    · rw [List.getElem?_set_ne hb, List.getElem?_set_ne hb]; exact h

theorem applyU_append (l m : List (Nat × Blk)) (st : Store) : applyU (l ++ m) st = applyU m (applyU l st) := List.foldl_append

def Local (R W : List Nat) (f : Store → Option (AV × Store)) : Prop := ∀ st, LocalAt st R W f

theorem disj_spec {a b : List Nat} (h : disj a b = true) {x : Nat} (ha : x ∈ a) : x ∉ b := by
  have := List.all_eq_true.1 h x ha
  simpa using this

theorem LocalAt.comm {R W R' W' : List Nat} {f g : Store → Option (AV × Store)} {st s1 s2 : Store} {v u : AV} (hf : LocalAt st R W f) (hg : LocalAt s1 R' W' g) (hd : okFp (.inl (R, W)) (.inl (R', W')) = true) (h1 : f st = some (v, s1)) (h2 : g s1 = some (u, s2)) :
    ∃ s3, g st = some (u, s3) ∧ f s3 = some (v, s2) := by
  simp only [okFp, Bool.and_eq_true] at hd
  obtain ⟨⟨d1, d2⟩, d3⟩ := hd
  obtain ⟨u1, k1, rfl, g1⟩ := hf v s1 h1
  obtain ⟨u2, k2, rfl, g2⟩ := hg u s2 h2
  refine ⟨applyU u2 st, g2 st fun b hb => ?_, ?_⟩
  · refine (applyU_get (fun p hp he => ?_) st).symm
    subst he
    rcases hb with hb | hb
    · exact disj_spec d1 (k1 p hp) hb
    · exact disj_spec d2 (k1 p hp) hb
  · rw [g1 (applyU u2 st) fun b hb => ?_, applyU_comm (fun p hp q hq he => ?_)]
    · exact disj_spec d2 (k1 q hq) (he ▸ k2 p hp)
    · refine applyU_get (fun p hp he => ?_) st
      subst he
      rcases hb with hb | hb
      · exact disj_spec d3 (k2 p hp) hb
      · exact disj_spec d2 hb (k2 p hp)

theorem srcOf_local {x : AV} {st st2 : Store} (h : ∀ b, b ∈ blkOf x → st2[b]? = st[b]?) : srcOf st2 x = srcOf st x := by
  cases x <;> try rfl
  · rename_i b off len
    simp only [srcOf, h b (by simp [blkOf])]
  · rename_i b i off len
    simp only [srcOf, h b (by simp [blkOf])]

theorem newBlk_slot {st st1 : Store} {s b : Nat} {blk : Blk} (h : newBlk st (some s) blk = some (b, st1)) : st[s]? = some .fresh ∧ b = s ∧ st1 = st.set s blk := by
  simp only [newBlk] at h
  split at h <;> try (cases h; done)
  rename_i hf
  simp only [Option.some.injEq, Prod.mk.injEq] at h
  exact ⟨hf, h.1.symm, h.2.symm⟩

theorem newBlk_of {st : Store} {s : Nat} {blk : Blk} (h : st[s]? = some .fresh) : newBlk st (some s) blk = some (s, st.set s blk) := by
  simp only [newBlk, h]

theorem map_newBlk {st st' : Store} {s : Nat} {blk : Blk} {g : Nat → AV} {v : AV} (h : (newBlk st (some s) blk).map (fun x => (g x.1, x.2)) = some (v, st')) : st[s]? = some .fresh ∧ v = g s ∧ st' = st.set s blk := by
  simp only [Option.map_eq_some_iff, Prod.mk.injEq] at h
  obtain ⟨⟨b, s1⟩, h1, rfl, rfl⟩ := h
  obtain ⟨h2, rfl, rfl⟩ := newBlk_slot h1
  exact ⟨h2, rfl, rfl⟩

theorem map_newBlk_of {st : Store} {s : Nat} {blk : Blk} {g : Nat → AV} (h : st[s]? = some .fresh) : (newBlk st (some s) blk).map (fun x => (g x.1, x.2)) = some (g s, st.set s blk) := by
  rw [newBlk_of h]; rfl

theorem rBox_local (s : Nat) (ty : Option Nat) (vs : List AV) : Local [] [s] fun st => rBox st (some s) ty vs := by
  intro st v st' h
  simp only [rBox] at h ⊢
  split at h <;> try (cases h; done)
  rename_i x
  split at h <;> try (cases h; done)
  rename_i h1
  obtain ⟨hf, rfl, rfl⟩ := map_newBlk (g := fun b => .ptr b 0 0) h
  refine ⟨[(s, .row x.cells.length [x] ⟨0, ty⟩)], by simp, rfl, fun st2 hst => ?_⟩
  simp only [h1, if_true]
  exact map_newBlk_of (g := fun b => .ptr b 0 0) ((hst s (by simp)).trans hf)

theorem rMkSlice_local (s esz bytes : Nat) (z : AV) (vs : List AV) : Local [] [s] fun st => rMkSlice st (some s) esz bytes z vs := by
  intro st v st' h
  simp only [rMkSlice] at h ⊢
  split at h <;> try (cases h; done)
  rename_i k1 l k2 c
  split at h <;> try (cases h; done)
  rename_i h1
  obtain ⟨hf, rfl, rfl⟩ := map_newBlk (g := fun b => .osl b 0 l.toNat) h
  refine ⟨[(s, .row esz (List.replicate c.toNat z) ⟨0, none⟩)], by simp, rfl, fun st2 hst => ?_⟩
  simp only [if_pos h1]
  exact map_newBlk_of (g := fun b => .osl b 0 l.toNat) ((hst s (by simp)).trans hf)

theorem rApp_local (s esz bytes ty : Nat) (ys : List AV) (x : AV) : Local [] (s :: blkOf x) fun st => rApp st (some s) esz bytes ty ys x := by
  intro st v st' h
  unfold rApp at h ⊢
  cases x with
  | nils =>
    simp only at h ⊢
    split at h
    · rename_i hy
      injection h with h; injection h with h1 h2; subst h1; subst h2
      exact ⟨[], by simp, rfl, fun st2 _ => by rw [if_pos hy]; rfl⟩
    · rename_i hy
      split at h <;> try (cases h; done)
      rename_i hc
      obtain ⟨hf, rfl, rfl⟩ := map_newBlk (g := fun b => .osl b 0 ys.length) h
      refine ⟨[(s, .row esz ys ⟨0, some ty⟩)], by simp, rfl, fun st2 hst => ?_⟩
      rw [if_neg hy, if_pos hc]
      exact map_newBlk_of (g := fun b => .osl b 0 ys.length) ((hst s (by simp)).trans hf)
  | vsl f xs =>
    simp only at h ⊢
    split at h
    · rename_i hy
      injection h with h; injection h with h1 h2; subst h1; subst h2
      exact ⟨[], by simp, rfl, fun st2 _ => by rw [if_pos hy]; rfl⟩
    · rename_i hy
      split at h <;> try (cases h; done)
      rename_i hc
      obtain ⟨hf, rfl, rfl⟩ := map_newBlk (g := fun b => .osl b 0 (xs.length + ys.length)) h
      refine ⟨[(s, .row esz (xs ++ ys) ⟨0, some ty⟩)], by simp, rfl, fun st2 hst => ?_⟩
      rw [if_neg hy, if_pos hc]
      exact map_newBlk_of (g := fun b => .osl b 0 (xs.length + ys.length)) ((hst s (by simp)).trans hf)
  | osl b off len =>
    simp only at h ⊢
    split at h
    · rename_i hy
      injection h with h; injection h with h1 h2; subst h1; subst h2
      exact ⟨[], by simp, rfl, fun st2 _ => by rw [if_pos hy]; rfl⟩
    · rename_i hy
      split at h <;> try (cases h; done)
      rename_i e xs ro hb
      split at h <;> try (cases h; done)
      rename_i hc
      split at h
      · rename_i hin
        injection h with h; injection h with h1 h2; subst h1; subst h2
        refine ⟨[(b, .row e (xs.take (off + len) ++ ys ++ xs.drop (off + len + ys.length)) ro)], by simp [blkOf], rfl, fun st2 hst => ?_⟩
        have hb2 := (hst b (by simp [blkOf])).trans hb
        rw [if_neg hy]
        simp only [hb2]
        rw [if_pos hc, if_pos hin]
        rfl
      · rename_i hin
        split at h <;> try (cases h; done)
        rename_i hc2
        obtain ⟨hf, rfl, rfl⟩ := map_newBlk (g := fun b => .osl b 0 (len + ys.length)) h
        have hsb : b ≠ s := fun he => by
          subst he
          rcases Nat.lt_or_ge b st.length with hl | hl
          · rw [List.getElem?_set_self hl] at hf; cases hf
          · rw [List.getElem?_eq_none (by simpa using hl)] at hf; cases hf
        rw [List.getElem?_set_ne hsb] at hf
        refine ⟨[(b, .dead), (s, .row e (xs.take len ++ ys) (ro.keep ty))], by simp [blkOf], rfl, fun st2 hst => ?_⟩
        have hb2 := (hst b (by simp [blkOf])).trans hb
        rw [if_neg hy]
        simp only [hb2]
        rw [if_pos hc, if_neg hin, if_pos hc2]
        exact map_newBlk_of (g := fun b => .osl b 0 (len + ys.length)) (by rw [List.getElem?_set_ne hsb]; exact (hst s (by simp)).trans hf)
  | _ => cases h

theorem Local.mono {R W R' W' : List Nat} {f : Store → Option (AV × Store)} (h : Local R W f) (hr : ∀ b, b ∈ R → b ∈ R' ∨ b ∈ W') (hw : ∀ b, b ∈ W → b ∈ W') : Local R' W' f := fun st v st' he => by
  obtain ⟨ups, h1, h2, h3⟩ := h st v st' he
  exact ⟨ups, fun p hp => hw _ (h1 p hp), h2, fun st2 hst => h3 st2 fun b hb => hst b (hb.elim (hr b) fun hb => .inr (hw b hb))⟩

theorem rLoad_local (n : Option Nat) (vs : List AV) : Local (blkOf (vs.getD 0 .unk)) [] fun st => rLoad st n vs := by
  intro st v st' h
  have hst' : st' = st := rop_still1 none (.load n) vs rfl h
  subst hst'
  refine ⟨[], by simp, rfl, fun st2 hst => ?_⟩
  show rLoad st2 n vs = some (v, st2)
  replace h : rLoad st' n vs = some (v, st') := h
  simp only [rLoad] at h ⊢
  split at h <;> try (cases h; done)
  · rename_i b i off
    have hb := hst b (by simp [blkOf])
    simp only [hb]
    split at h <;> try (cases h; done)
    rename_i hrow
    simp only [Option.bind_eq_some_iff, Option.map_eq_some_iff, Prod.mk.injEq] at h ⊢
    obtain ⟨a, h1, r, h2, h3, _⟩ := h
    exact ⟨a, h1, r, h2, h3, trivial⟩
  · simp only [Option.map_eq_some_iff, Prod.mk.injEq] at h ⊢
    obtain ⟨r, h2, h3, _⟩ := h
    exact ⟨r, h2, h3, trivial⟩

theorem rCbs_local (vs : List AV) : Local (blkOf (vs.getD 0 .unk)) [] fun st => rCbs st vs := by
  intro st v st' h
  have hst' : st' = st := rop_still1 none .cbs vs rfl h
  subst hst'
  refine ⟨[], by simp, rfl, fun st2 hst => ?_⟩
  show rCbs st2 vs = some (v, st2)
  replace h : rCbs st' vs = some (v, st') := h
  unfold rCbs at h ⊢
  split at h <;> try (cases h; done)
  rename_i x hx
  have hs : srcOf st2 x = srcOf st' x := srcOf_local fun b hb => hst b (.inl (by simpa using hb))
  simp only [hs]
  simp only [Option.bind_eq_some_iff, Option.map_eq_some_iff, Prod.mk.injEq] at h ⊢
  obtain ⟨a, h1, r, h2, h3, _⟩ := h
  exact ⟨a, h1, r, h2, h3, trivial⟩

theorem rIxs_local (esz : Nat) (vs : List AV) : Local (blkOf (vs.getD 0 .unk)) [] fun st => rIxs st esz vs := by
  intro st v st' h
  have hst' : st' = st := rop_still1 none (.ixs esz) vs rfl h
  subst hst'
  refine ⟨[], by simp, rfl, fun st2 hst => ?_⟩
  show rIxs st2 esz vs = some (v, st2)
  replace h : rIxs st' esz vs = some (v, st') := h
  unfold rIxs at h ⊢
  split at h <;> try (cases h; done)
  · split at h <;> try (cases h; done)
    rename_i hc
    simp only [if_pos hc]
    simp only [Option.bind_eq_some_iff] at h ⊢
    obtain ⟨a, h1, h⟩ := h
    refine ⟨a, h1, ?_⟩
    split at h <;> try (cases h; done)
    rename_i hl
    rw [if_pos hl]
    injection h with h; injection h with h1 _; subst h1; rfl
  · rename_i b off len k i
    have hb := hst b (by simp [blkOf])
    split at h <;> try (cases h; done)
    rename_i hc
    simp only [if_pos hc, hb]
    split at h <;> try (cases h; done)
    rename_i hrow
    split at h <;> try (cases h; done)
    rename_i hl
    rw [if_pos hl]
    injection h with h; injection h with h1 _; subst h1; rfl

theorem rSsl_local (esz : Nat) (lo hi mx : Bool) (vs : List AV) : Local (blkOf (vs.getD 0 .unk)) [] fun st => rSsl st esz lo hi mx vs := by
  intro st v st' h
  have hst' : st' = st := rop_still1 none (.ssl esz lo hi mx) vs rfl h
  subst hst'
  refine ⟨[], by simp, rfl, fun st2 hst => ?_⟩
  show rSsl st2 esz lo hi mx vs = some (v, st2)
  replace h : rSsl st' esz lo hi mx vs = some (v, st') := h
  unfold rSsl at h ⊢
  split at h <;> try (cases h; done)
  · simp only [Option.bind_eq_some_iff] at h ⊢
    obtain ⟨a, h1, b, h2, c, h3, h⟩ := h
    refine ⟨a, h1, b, h2, c, h3, ?_⟩
    split at h <;> try (cases h; done)
    rename_i hl
    rw [if_pos hl]
    injection h with h; injection h with h1 _; subst h1; rfl
  · simp only [Option.bind_eq_some_iff] at h ⊢
    obtain ⟨a, h1, b, h2, c, h3, h⟩ := h
    refine ⟨a, h1, b, h2, c, h3, ?_⟩
    split at h <;> try (cases h; done)
    rename_i hl
    rw [if_pos hl]
    injection h with h; injection h with h1 _; subst h1; rfl
  · rename_i b0 off len vs'
    have hb := hst b0 (by simp [blkOf])
    simp only [Option.bind_eq_some_iff] at h ⊢
    obtain ⟨a, h1, b, h2, h⟩ := h
    refine ⟨a, h1, b, h2, ?_⟩
    simp only [hb]
    split at h <;> try (cases h; done)
    rename_i hrow
    split at h <;> try (cases h; done)
    rename_i hl
    rw [if_pos hl]
    split at h
    · rename_i hm
      simp only [hm, if_true]
      simp only [Option.bind_eq_some_iff] at h ⊢
      obtain ⟨c, h3, h⟩ := h
      refine ⟨c, by first | exact h3 | (rw [hm] at h3; exact h3), ?_⟩
      split at h <;> try (cases h; done)
      rename_i hl
      rw [if_pos hl]
      injection h with h; injection h with h1 _; subst h1; rfl
    · rename_i hm
      simp only [hm, if_false]
      split at h <;> try (cases h; done)
      rename_i hl
      rw [if_pos hl]
      split at h <;> rename_i hl2
      · rw [if_pos hl2]; injection h with h; injection h with h1 _; subst h1; rfl
      · rw [if_neg hl2]; injection h with h; injection h with h1 _; subst h1; rfl

theorem rStore_local (n : Nat) (vs : List AV) : Local [] (blkOf (vs.getD 0 .unk)) fun st => rStore st n vs := by
  intro st v st' h
  simp only [rStore] at h ⊢
  split at h <;> try (cases h; done)
  rename_i b i off x
  split at h <;> try (cases h; done)
  rename_i esz xs ro hrow
  simp only [Option.bind_eq_some_iff] at h
  obtain ⟨e, he, h⟩ := h
  split at h <;> try (cases h; done)
  rename_i hc
  injection h with h; injection h with h1 h2; subst h1; subst h2
  refine ⟨[(b, .row esz (xs.set i (mkLike e (splice e.cells off x.cells))) ro)], by simp [blkOf], rfl, fun st2 hst => ?_⟩
  have hb := (hst b (by simp [blkOf])).trans hrow
  simp only [hb, he, Option.bind_some, if_pos hc]
  rfl

theorem rAppend_local (s esz bytes : Nat) (sb : Bool) (ty : Nat) (vs : List AV) : Local (blkOf (vs.getD 1 .unk)) (s :: blkOf (vs.getD 0 .unk)) fun st => rAppend st (some s) esz bytes sb ty vs := by
  intro st v st' h
  simp only [rAppend] at h ⊢
  split at h <;> try (cases h; done)
  rename_i d x
  simp only [Option.bind_eq_some_iff] at h
  obtain ⟨ys, hys, h⟩ := h
  split at h <;> try (cases h; done)
  rename_i hc
  obtain ⟨ups, h1, h2, h3⟩ := rApp_local s esz bytes ty ys d st v st' h
  refine ⟨ups, by simpa using h1, h2, fun st2 hst => ?_⟩
  have hs : srcOf st2 x = srcOf st x := srcOf_local fun b hb => hst b (.inl (by simpa using hb))
  simp only [hs, hys, Option.bind_some, if_pos hc]
  exact h3 st2 fun b hb => hst b (.inr (by simpa using hb))

theorem rCopy_local (esz : Nat) (vs : List AV) : Local (blkOf (vs.getD 1 .unk)) (blkOf (vs.getD 0 .unk)) fun st => rCopy st esz vs := by
  intro st v st' h
  simp only [rCopy] at h ⊢
  split at h <;> try (cases h; done)
  rename_i d x
  simp only [Option.bind_eq_some_iff] at h
  obtain ⟨ys, hys, h⟩ := h
  have hsrc : ∀ st2 : Store, (∀ b, b ∈ blkOf ([d, x].getD 1 .unk) ∨ b ∈ blkOf ([d, x].getD 0 .unk) → st2[b]? = st[b]?) → srcOf st2 x = srcOf st x := fun st2 hst => srcOf_local fun b hb => hst b (.inl (by simpa using hb))
  unfold rCpy at h
  split at h <;> try (cases h; done)
  · injection h with h; injection h with h1 h2; subst h1; subst h2
    exact ⟨[], by simp, rfl, fun st2 hst => by simp only [hsrc st2 hst, hys, Option.bind_some, rCpy]; rfl⟩
  · injection h with h; injection h with h1 h2; subst h1; subst h2
    exact ⟨[], by simp, rfl, fun st2 hst => by simp only [hsrc st2 hst, hys, Option.bind_some, rCpy]; rfl⟩
  · rename_i b off len
    split at h <;> try (cases h; done)
    rename_i e xs ro hrow
    split at h <;> try (cases h; done)
    rename_i hc
    injection h with h; injection h with h1 h2; subst h1; subst h2
    refine ⟨[(b, .row e (xs.take off ++ ys.take len ++ xs.drop (off + (ys.take len).length)) ro)], by simp [blkOf], rfl, fun st2 hst => ?_⟩
    have hb := (hst b (.inr (by simp [blkOf]))).trans hrow
    simp only [hsrc st2 hst, hys, Option.bind_some, rCpy, hb, if_pos hc]
    rfl

theorem rCvp_local (vs : List AV) : Local (blkOf (vs.getD 0 .unk)) [] fun st => rCvp st vs := by
  intro st v st' h
  have hst' : st' = st := rop_still1 none .cvp vs rfl h
  subst hst'
  refine ⟨[], by simp, rfl, fun st2 hst => ?_⟩
  show rCvp st2 vs = some (v, st2)
  replace h : rCvp st' vs = some (v, st') := h
  unfold rCvp at h ⊢
  split at h <;> try (cases h; done)
  rename_i b i off
  have hb := hst b (by simp [blkOf])
  simp only [hb]
  split at h <;> try (cases h; done)
  simp only [Option.bind_eq_some_iff] at h ⊢
  obtain ⟨a, h1, h⟩ := h
  refine ⟨a, h1, ?_⟩
  split at h <;> try (cases h; done)
  rename_i hl
  rw [if_pos hl]
  injection h with h; injection h with h1 _; subst h1; rfl

theorem rCvu_local (l : List (Nat × Nat × Nat)) (vs : List AV) : Local (blkOf (vs.getD 0 .unk)) [] fun st => rCvu st l vs := by
  intro st v st' h
  have hst' : st' = st := rop_still1 none (.cvu l) vs rfl h
  subst hst'
  refine ⟨[], by simp, rfl, fun st2 hst => ?_⟩
  show rCvu st2 l vs = some (v, st2)
  replace h : rCvu st' l vs = some (v, st') := h
  unfold rCvu at h ⊢
  split at h <;> try (cases h; done)
  rename_i b off
  have hb := hst b (by simp [blkOf])
  simp only [hb]
  split at h <;> try (cases h; done)
  split at h <;> try (cases h; done)
  rename_i hl
  rw [if_pos hl]
  injection h with h; injection h with h1 _; subst h1; rfl

theorem rUstr_local (ty : Nat) (vs : List AV) : Local [] (blkOf (vs.getD 0 .unk)) fun st => rUstr st ty vs := by
  intro st v st' h
  simp only [rUstr] at h ⊢
  split at h <;> try (cases h; done)
  · rename_i b n
    split at h <;> try (cases h; done)
    rename_i xs r t hrow
    split at h <;> try (cases h; done)
    rename_i hc
    simp only [Option.map_eq_some_iff, Prod.mk.injEq] at h
    obtain ⟨s, hs, rfl, rfl⟩ := h
    refine ⟨[(b, .dead)], by simp [blkOf], rfl, fun st2 hst => ?_⟩
    have hb := (hst b (by simp [blkOf])).trans hrow
    simp only [hb, if_pos hc, hs, Option.map_some]
    rfl
  · injection h with h; injection h with h1 h2; subst h1; subst h2
    exact ⟨[], by simp, rfl, fun st2 _ => rfl⟩

theorem Still0.local {f : Store → Option (AV × Store)} (h : Still0 f) : Local [] [] f := fun st v st' he => by
  obtain ⟨h1, h2⟩ := h st v st' he
  exact ⟨[], by simp, h1, fun st2 _ => h2 st2⟩

theorem LocalAt.still {st : Store} {R W : List Nat} {f : Store → Option (AV × Store)} (h : LocalAt st R W f) (hn : inFp (R, W) [] = true) {v : AV} {st' : Store} (he : f st = some (v, st')) : st' = st ∧ ∀ st2, f st2 = some (v, st2) := by
  have hn' : R = [] ∧ W = [] := by
    simp only [inFp, Bool.and_eq_true] at hn
    constructor
    · cases R with
      | nil => rfl
      | cons x l => simp at hn
    · cases W with
      | nil => rfl
      | cons x l => simp at hn
  obtain ⟨rfl, rfl⟩ := hn'
  obtain ⟨ups, h1, h2, h3⟩ := h v st' he
  have : ups = [] := by
    cases ups with
    | nil => rfl
    | cons p l => exact absurd (h1 p (List.mem_cons_self ..)) (by simp)
  subst this
  exact ⟨h2, fun st2 => h3 st2 fun b hb => by simp at hb⟩

theorem rop_local (s : Nat) (r : ROp) (vs : List AV) (h0 : primKind r ≠ 0) : Local (fpOf r vs).1 ((if isAlloc r then [s] else []) ++ (fpOf r vs).2) (rop (some s) r vs) := by
  cases r <;> simp only [primKind] at h0 <;> try (exact absurd rfl h0)
  case box t => exact rBox_local s (some t) vs
  case alloc z t => exact rBox_local s (some t) (z :: vs)
  case cvp => exact rCvp_local vs
  case cvu l => exact rCvu_local l vs
  case ustr t => exact rUstr_local t vs
  case load n => exact rLoad_local n vs
  case store n => exact rStore_local n vs
  case cbs => exact rCbs_local vs
  case ssl esz lo hi mx => exact rSsl_local esz lo hi mx vs
  case ixs esz => exact rIxs_local esz vs
  case append esz bytes sb t => exact rAppend_local s esz bytes sb t vs
  case mkSlice esz bytes z => exact rMkSlice_local s esz bytes z vs
  case copy esz => exact rCopy_local esz vs

theorem exec1_local {call : CallF} {hid : List Nat} {s : Nat} {o : Oper} {r : ROp} {xs : List Operand} (hr : resOp P o.op = some (.prim r, xs)) (E : Env) :
    Local (fpOf r (xs.map (aval E))).1 ((if isAlloc r then [s] else []) ++ (fpOf r (xs.map (aval E))).2) fun st => exec1 P M (some s) hid call E st o := by
  unfold exec1
  simp only [hr, Option.isSome_some, Bool.true_and]
  by_cases hq : okQ r (xs.map (aval E)) = true
  · simp only [hq, Bool.not_true, Bool.false_eq_true, if_false]
    by_cases h0 : primKind r = 0
    · exact (rop_still0 (some s) r _ h0 hq).local.mono (fun b hb => by simp at hb) (fun b hb => by simp at hb)
    · exact rop_local s r _ h0
  · simp only [hq, Bool.not_false, if_true]
    intro st v st' h
    cases h

theorem exec1_call_local {call : CallF} (hc : CallPure M call) {hid : List Nat} {s f : Nat} {o : Oper} {xs : List Operand} (hr : resOp P o.op = some (.call f, xs)) (E : Env) (hf : M f ≠ 0) (hp : AV.pure.pureL (xs.map (aval E)) = true) :
    Local [] [] fun st => exec1 P M (some s) hid call E st o := by
  have hip : isPure (M f) (xs.map (aval E)) = true := by
    unfold isPure
    split
    · rename_i h0; exact absurd h0 hf
    · rfl
    · exact hp
  unfold exec1
  simp only [hr, hip, if_true, callH]
  exact (hc.still f _ hf hp).local

theorem exec1_call1_local {call : CallF} (hc : CallPure M call) {hid : List Nat} {s f : Nat} {o : Oper} {xs : List Operand} (hr : resOp P o.op = some (.call f, xs)) (E : Env) (st : Store) (hf : M f = 1) :
    LocalAt st (touchL (xs.map (aval E)) st) (touchL (xs.map (aval E)) st) fun st => exec1 P M (some s) hid call E st o := by
  have hip : isPure (M f) (xs.map (aval E)) = true := by rw [hf]; rfl
  unfold exec1
  simp only [hr, hip, if_true, callH]
  exact hc.loc f _ st hf

/-! ### What is met -/

def content (st : Store) (b : Nat) : Option (List AV) :=
  match st[b]? with
  | some (.row _ xs _) => some xs
  | _ => none

theorem flatMap_congr_mem {α β : Type} {l : List α} {f g : α → List β} (h : ∀ x ∈ l, f x = g x) : l.flatMap f = l.flatMap g := by
  induction l with
  | nil => rfl
  | cons x l ih => rw [List.flatMap_cons, List.flatMap_cons, h x (List.mem_cons_self ..), ih fun y hy => h y (List.mem_cons_of_mem _ hy)]

theorem touch_congr (n : Nat) : ∀ (v : AV) (st st2 : Store), (∀ b, b ∈ touch n v st → content st2 b = content st b) → touch n v st2 = touch n v st := by
  induction n with
  | zero => intro v st st2 _; rfl
  | succ n ih =>
    intro v st st2 h
    have hl : ∀ l : List AV, (∀ b, b ∈ (l.flatMap fun x => touch n x st) → content st2 b = content st b) → (l.flatMap fun x => touch n x st2) = l.flatMap fun x => touch n x st := fun l hh =>
      flatMap_congr_mem fun x hx => ih x st st2 fun b hb => hh b (List.mem_flatMap.2 ⟨x, hx, hb⟩)
    cases v with
    | osl b off len =>
      have hb := h b (by simp [touch])
      simp only [touch] at h ⊢
      congr 1
      unfold content at hb
      cases h1 : st[b]? with
      | none =>
        cases h2 : st2[b]? with
        | none => rfl
        | some c => cases c <;> simp [h1, h2] at hb ⊢
      | some c =>
        cases h2 : st2[b]? with
        | none => cases c <;> simp [h1, h2] at hb ⊢
        | some c2 =>
          cases c <;> cases c2 <;> simp [h1, h2] at hb ⊢
          subst hb
          simp only [h1] at h
          exact hl _ fun b hb => h b (List.mem_cons_of_mem _ hb)
    | agg cs => simp only [touch] at h ⊢; exact hl cs h
    | tup cs => simp only [touch] at h ⊢; exact hl cs h
    | ifc t v => simp only [touch] at h ⊢; exact ih v st st2 h
    | fn f a b =>
      simp only [touch] at h ⊢
      rw [hl a fun b hb => h b (List.mem_append_left _ hb), hl b fun b hb => h b (List.mem_append_right _ hb)]
    | _ => simp only [touch]

theorem touchL_congr {args : List AV} {st st2 : Store} (h : ∀ b, b ∈ touchL args st → content st2 b = content st b) : touchL args st2 = touchL args st :=
  flatMap_congr_mem fun x hx => touch_congr _ x st st2 fun b hb => h b (List.mem_flatMap.2 ⟨x, hx, hb⟩)

theorem content_of {st st2 : Store} {b : Nat} (h : st2[b]? = st[b]?) : content st2 b = content st b := by
  unfold content; rw [h]

theorem content_set {st : Store} {b esz : Nat} {ro ro' : Ro} {xs : List AV} (h : st[b]? = some (.row esz xs ro)) (c : Nat) : content (st.set b (.row esz xs ro')) c = content st c := by
  unfold content
  by_cases hc : b = c
  · subst hc
    rw [List.getElem?_set_self (List.getElem?_eq_some_iff.1 h).1, h]
  · rw [List.getElem?_set_ne hc]

/-- To turn a value into plain data meets those rows alone. -/
def EraseLoc (f : AV → Store → Option (AV × Store)) (T : AV → Store → List Nat) : Prop :=
  ∀ v st v' st', f v st = some (v', st') → (∀ b, content st' b = content st b) ∧ ∃ ups : List (Nat × Blk), (∀ p ∈ ups, p.1 ∈ T v st) ∧ st' = applyU ups st ∧ ∀ st2 : Store, (∀ b, b ∈ T v st → st2[b]? = st[b]?) → f v st2 = some (v', applyU ups st2)

theorem mapS_loc {f : AV → Store → Option (AV × Store)} {T : AV → Store → List Nat} (hf : EraseLoc f T) (hT : ∀ v st st2, (∀ b, content st2 b = content st b) → T v st2 = T v st) : ∀ (l : List AV) (st : Store) (ys : List AV) (st' : Store), mapS f l st = some (ys, st') →
    (∀ b, content st' b = content st b) ∧ ∃ ups : List (Nat × Blk), (∀ p ∈ ups, p.1 ∈ l.flatMap fun x => T x st) ∧ st' = applyU ups st ∧ ∀ st2 : Store, (∀ b, b ∈ (l.flatMap fun x => T x st) → st2[b]? = st[b]?) → mapS f l st2 = some (ys, applyU ups st2)
  | [], st, ys, st', h => by
    simp [mapS] at h
    obtain ⟨rfl, rfl⟩ := h
    exact ⟨fun _ => rfl, [], by simp, rfl, fun st2 _ => rfl⟩
  | x :: l, st, ys, st', h => by
    simp only [mapS, Option.bind_eq_some_iff, Option.map_eq_some_iff, Prod.mk.injEq] at h
    obtain ⟨⟨y, s1⟩, h1, ⟨zs, s2⟩, h2, rfl, rfl⟩ := h
    obtain ⟨c1, u1, k1, e1, g1⟩ := hf x st y s1 h1
    obtain ⟨c2, u2, k2, e2, g2⟩ := mapS_loc hf hT l s1 zs s2 h2
    have hsame : (l.flatMap fun x => T x s1) = l.flatMap fun x => T x st := by
      congr 1
      funext x
      exact hT x st s1 c1
    rw [hsame] at k2 g2
    refine ⟨fun b => (c2 b).trans (c1 b), u1 ++ u2, fun p hp => ?_, by rw [applyU_append, ← e1]; exact e2, fun st2 hst => ?_⟩
    · simp only [List.flatMap_cons]
      rcases List.mem_append.1 hp with hp | hp
      · exact List.mem_append_left _ (k1 p hp)
      · exact List.mem_append_right _ (k2 p hp)
    · simp only [List.flatMap_cons] at hst
      simp only [mapS, g1 st2 fun b hb => hst b (List.mem_append_left _ hb), Option.bind_some]
      rw [g2 (applyU u1 st2) fun b hb => by rw [e1]; exact applyU_congr (hst b (List.mem_append_right _ hb))]
      simp only [Option.map_some, applyU_append]

theorem erase_loc (n : Nat) : EraseLoc (erase n) (touch n) := by
  induction n with
  | zero => intro v st v' st' h; simp [erase] at h
  | succ n ih =>
    intro v st v' st' h
    have hl := mapS_loc ih (fun v st st2 hc => touch_congr n v st st2 fun b _ => hc b)
    cases v with
    | osl b off len =>
      simp only [erase] at h
      split at h <;> try (cases h; done)
      rename_i esz xs ro hrow
      split at h <;> try (cases h; done)
      rename_i hfit
      simp only [Option.map_eq_some_iff, Prod.mk.injEq] at h
      obtain ⟨⟨ys, s1⟩, h1, rfl, rfl⟩ := h
      obtain ⟨c1, u1, k1, e1, g1⟩ := hl _ _ _ _ h1
      have hsame : (((xs.drop off).take len).flatMap fun x => touch n x (st.set b (.row esz xs ⟨xs.length, ro.ty⟩))) = ((xs.drop off).take len).flatMap fun x => touch n x st := by
        congr 1
        funext x
        exact touch_congr n x st _ fun c _ => content_set hrow c
      rw [hsame] at k1 g1
      refine ⟨fun c => (c1 c).trans (content_set hrow c), (b, .row esz xs ⟨xs.length, ro.ty⟩) :: u1, fun p hp => ?_, by simpa [applyU] using e1, fun st2 hst => ?_⟩
      · simp only [touch, hrow]
        rcases List.mem_cons.1 hp with rfl | hp
        · exact List.mem_cons_self ..
        · exact List.mem_cons_of_mem _ (k1 p hp)
      · simp only [touch, hrow] at hst
        have hb := (hst b (List.mem_cons_self ..)).trans hrow
        simp only [erase, hb, if_pos hfit]
        rw [g1 (st2.set b (.row esz xs ⟨xs.length, ro.ty⟩)) fun c hc => applyU_congr (l := [(b, .row esz xs ⟨xs.length, ro.ty⟩)]) (hst c (List.mem_cons_of_mem _ hc))]
        rfl
    | agg cs =>
      simp only [erase, Option.map_eq_some_iff, Prod.mk.injEq] at h
      obtain ⟨⟨ys, s1⟩, h1, rfl, rfl⟩ := h
      obtain ⟨c1, u1, k1, e1, g1⟩ := hl _ _ _ _ h1
      exact ⟨c1, u1, k1, e1, fun st2 hst => by simp only [erase, g1 st2 hst, Option.map_some]⟩
    | tup cs =>
      simp only [erase, Option.map_eq_some_iff, Prod.mk.injEq] at h
      obtain ⟨⟨ys, s1⟩, h1, rfl, rfl⟩ := h
      obtain ⟨c1, u1, k1, e1, g1⟩ := hl _ _ _ _ h1
      exact ⟨c1, u1, k1, e1, fun st2 hst => by simp only [erase, g1 st2 hst, Option.map_some]⟩
    | ifc t v =>
      simp only [erase, Option.map_eq_some_iff, Prod.mk.injEq] at h
      obtain ⟨⟨y, s1⟩, h1, rfl, rfl⟩ := h
      obtain ⟨c1, u1, k1, e1, g1⟩ := ih v st y s1 h1
      exact ⟨c1, u1, k1, e1, fun st2 hst => by simp only [erase, g1 st2 hst, Option.map_some]⟩
    | fn f a b =>
      simp only [erase, Option.bind_eq_some_iff, Option.map_eq_some_iff, Prod.mk.injEq] at h
      obtain ⟨⟨ys, s1⟩, h1, ⟨zs, s2⟩, h2, rfl, rfl⟩ := h
      obtain ⟨c1, u1, k1, e1, g1⟩ := hl _ _ _ _ h1
      obtain ⟨c2, u2, k2, e2, g2⟩ := hl _ _ _ _ h2
      have hsame : (b.flatMap fun x => touch n x s1) = b.flatMap fun x => touch n x st := by
        congr 1
        funext x
        exact touch_congr n x st _ fun c _ => c1 c
      simp only at e1 e2 k2 g2
      rw [hsame] at k2 g2
      refine ⟨fun c => (c2 c).trans (c1 c), u1 ++ u2, fun p hp => ?_, by rw [applyU_append, ← e1]; exact e2, fun st2 hst => ?_⟩
      · simp only [touch]
        rcases List.mem_append.1 hp with hp | hp
        · exact List.mem_append_left _ (k1 p hp)
        · exact List.mem_append_right _ (k2 p hp)
      · simp only [touch] at hst
        simp only [erase, g1 st2 fun b hb => hst b (List.mem_append_left _ hb), Option.bind_some]
        rw [g2 (applyU u1 st2) fun c hc => by rw [e1]; exact applyU_congr (hst c (List.mem_append_right _ hc))]
        simp only [Option.map_some, applyU_append]
    | ptr => simp [erase] at h
    | eptr => simp [erase] at h
    | asl => simp [erase] at h
    | unk => simp [erase] at h
    | _ =>
      simp only [erase, Option.some.injEq, Prod.mk.injEq] at h
      obtain ⟨rfl, rfl⟩ := h
      exact ⟨fun _ => rfl, [], by simp, rfl, fun st2 _ => rfl⟩

theorem touchL_loc {args : List AV} {st : Store} {ys : List AV} {st' : Store} (h : mapS (erase eraseFuel) args st = some (ys, st')) :
    ∃ ups : List (Nat × Blk), (∀ p ∈ ups, p.1 ∈ touchL args st) ∧ st' = applyU ups st ∧ ∀ st2 : Store, (∀ b, b ∈ touchL args st → st2[b]? = st[b]?) → mapS (erase eraseFuel) args st2 = some (ys, applyU ups st2) :=
  (mapS_loc (erase_loc eraseFuel) (fun v st st2 hc => touch_congr _ v st st2 fun b _ => hc b) args st ys st' h).2

def RK.isPrim : RK → Bool
  | .prim _ => true
  | _ => false

def primO (o : Option (RK × List Operand)) : Bool := match o with
  | some (k, _) => k.isPrim
  | none => true

theorem primO_bind {α : Type} {o : Option α} {f : α → Option (RK × List Operand)} (h : ∀ a, primO (f a) = true) : primO (o.bind f) = true := by
  cases o with
  | none => rfl
  | some a => exact h a
theorem primO_map {α : Type} {o : Option α} {f : α → RK × List Operand} (h : ∀ a, (f a).1.isPrim = true) : primO (o.map f) = true := by
  cases o with
  | none => rfl
  | some a => exact h a
theorem primO_ite {c : Prop} [Decidable c] {a b : Option (RK × List Operand)} (ha : primO a = true) (hb : primO b = true) : primO (if c then a else b) = true := by
  split
  · exact ha
  · exact hb

theorem prim_of_not_call {op : Op} (hc : ∀ c, op ≠ .call c) : primO (resOp P op) = true := by
  cases op with
  | call c => exact absurd rfl (hc c)
  | makeMap t hint => cases hint <;> rfl
  | slice t x lo hi mx =>
    simp only [resOp]
    split
    · exact primO_ite rfl rfl
    · exact primO_bind fun _ => primO_ite rfl rfl
    · exact primO_bind fun _ => primO_ite rfl rfl
    · rfl
  | convert s d x =>
    simp only [resOp]
    split
    · rfl
    · rfl
    · split <;> rfl
    · exact primO_bind fun _ => primO_ite rfl rfl
    · exact primO_bind fun _ => primO_ite rfl rfl
    · rfl
  | buildSlice t n parts =>
    simp only [resOp]
    split
    · exact primO_bind fun _ => primO_bind fun _ => primO_ite rfl rfl
    · rfl
  | makeSlice t l c =>
    simp only [resOp]
    split
    · exact primO_bind fun _ => primO_bind fun _ => primO_ite rfl rfl
    · rfl
  | fieldAddr s x k =>
    simp only [resOp]
    split
    · exact primO_bind fun _ => primO_bind fun _ => primO_ite rfl rfl
    · rfl
  | field s x k =>
    simp only [resOp]
    split
    · exact primO_bind fun _ => primO_map fun _ => rfl
    · rfl
  | indexAddr t x i =>
    simp only [resOp]
    split
    · exact primO_map fun _ => rfl
    · exact primO_map fun _ => rfl
    · rfl
  | index t x i =>
    simp only [resOp]
    split
    · rfl
    · exact primO_bind fun _ => primO_map fun _ => rfl
    · rfl
  | makeInterface t x =>
    simp only [resOp]
    split <;> rfl
  | build t parts => exact primO_bind fun _ => primO_map fun _ => rfl
  | alloc t => exact primO_map fun _ => rfl
  | load t a => exact primO_map fun _ => rfl
  | store t a v => exact primO_map fun _ => rfl
  | binOp op t x y ty => exact primO_map fun _ => rfl
  | _ => rfl

/-- What an operation comes to, by its form. -/
theorem res_kind {op : Op} {k : RK} {xs : List Operand} (h : resOp P op = some (k, xs)) :
    (∃ r, k = .prim r) ∨ (∃ f args ats, op = .call ⟨.value (.func f), args, ats⟩ ∧ k = .call f ∧ xs = args.toList) ∨ (∃ x args ats, op = .call ⟨.value x, args, ats⟩ ∧ k = .clos ∧ xs = x :: args.toList) := by
  by_cases hc : ∃ c, op = .call c
  · obtain ⟨⟨callee, args, ats⟩, rfl⟩ := hc
    cases callee with
    | builtin b =>
      simp only [resOp] at h
      split at h <;> try (cases h; done)
      simp only [Option.map_eq_some_iff, Prod.mk.injEq] at h
      obtain ⟨r, _, h, _⟩ := h
      exact .inl ⟨r, h.symm⟩
    | value y =>
      simp only [resOp] at h
      cases y with
      | func f =>
        simp only at h
        split at h
        · split at h <;> try (cases h; done)
          injection h with h; injection h with h _
          exact .inl ⟨_, h.symm⟩
        · injection h with h; injection h with h1 h2
          exact .inr (.inl ⟨f, args, ats, rfl, h1.symm, h2.symm⟩)
      | _ =>
        injection h with h; injection h with h1 h2
        exact .inr (.inr ⟨_, args, ats, rfl, h1.symm, h2.symm⟩)
    | invoke a b => simp [resOp] at h
  · have := prim_of_not_call (P := P) (op := op) fun c he => hc ⟨c, he⟩
    rw [h] at this
    cases k with
    | prim r => exact .inl ⟨r, rfl⟩
    | call f => cases this
    | clos => cases this

theorem res_operands {op : Op} {k : RK} {xs : List Operand} (h : resOp P op = some (k, xs)) : ∀ x ∈ xs, x ∈ op.operands := by
  intro x hx
  cases op <;> simp only [resOp] at h <;> try (cases h; done)
  case call c =>
    obtain ⟨callee, args, argTypes⟩ := c
    cases callee with
    | builtin b =>
      simp only at h
      split at h <;> try (cases h; done)
      simp only [Option.map_eq_some_iff, Prod.mk.injEq] at h
      obtain ⟨_, _, _, rfl⟩ := h
      simp [Op.operands, Call.operands]; simpa using hx
    | value f =>
      have hxs : xs = args.toList ∨ ∃ y, xs = y :: args.toList ∧ y = f := by
        cases f with
        | func f =>
          simp only at h
          split at h
          · split at h <;> try (cases h; done)
            injection h with h; injection h with _ h; exact .inl h.symm
          · injection h with h; injection h with _ h; exact .inl h.symm
        | _ => injection h with h; injection h with _ h; exact .inr ⟨_, h.symm, rfl⟩
      rcases hxs with rfl | ⟨y, rfl, rfl⟩
      · simp [Op.operands, Call.operands]; right; simpa using hx
      · simp [Op.operands, Call.operands]; simpa using hx
    | invoke a b => simp at h
  case slice t y lo hi mx =>
    split at h <;> try (cases h; done)
    · split at h <;> try (cases h; done)
      injection h with h; injection h with _ h; subst h
      simp [Op.operands] at hx ⊢
      rcases hx with h | h | h <;> simp_all
    · simp only [Option.bind_eq_some_iff] at h
      obtain ⟨_, _, h⟩ := h
      split at h <;> try (cases h; done)
      injection h with h; injection h with _ h; subst h
      simp [Op.operands] at hx ⊢
      rcases hx with h | h | h | h <;> simp_all
    · simp only [Option.bind_eq_some_iff] at h
      obtain ⟨_, _, h⟩ := h
      split at h <;> try (cases h; done)
      injection h with h; injection h with _ h; subst h
      simp [Op.operands] at hx ⊢
      rcases hx with h | h | h <;> simp_all
  case convert s d y =>
    have hxs : xs = [y] := by
      split at h <;> try (cases h; done)
      · injection h with h; injection h with _ h; exact h.symm
      · injection h with h; injection h with _ h; exact h.symm
      · split at h <;> try (cases h; done)
        injection h with h; injection h with _ h; exact h.symm
      · simp only [Option.bind_eq_some_iff] at h
        obtain ⟨_, _, h⟩ := h
        split at h <;> try (cases h; done)
        injection h with h; injection h with _ h; exact h.symm
      · simp only [Option.bind_eq_some_iff] at h
        obtain ⟨_, _, h⟩ := h
        split at h <;> try (cases h; done)
        injection h with h; injection h with _ h; exact h.symm
    subst hxs
    simpa [Op.operands] using hx
  case build t parts =>
    simp only [Option.bind_eq_some_iff, Option.map_eq_some_iff, Prod.mk.injEq] at h
    obtain ⟨_, _, _, _, _, rfl⟩ := h
    simpa [Op.operands] using hx
  case buildSlice t n parts =>
    split at h <;> try (cases h; done)
    simp only [Option.bind_eq_some_iff] at h
    obtain ⟨_, _, _, _, h⟩ := h
    split at h <;> try (cases h; done)
    injection h with h; injection h with _ h; subst h
    simpa [Op.operands] using hx
  case makeFunc f first cap =>
    injection h with h; injection h with _ h; subst h
    simpa [Op.operands] using hx
  all_goals
    first
      | (injection h with h; injection h with _ h; subst h; simpa [Op.operands] using hx)
      | (simp only [Option.map_eq_some_iff, Prod.mk.injEq] at h
         obtain ⟨_, _, _, rfl⟩ := h
         first | exact absurd hx (List.not_mem_nil) | simpa [Op.operands] using hx)
      | ((repeat' split at h) <;> simp_all [Op.operands, Option.bind_eq_some_iff, Option.map_eq_some_iff]
         done)
      | skip
  case fieldAddr s y k =>
    split at h <;> try (cases h; done)
    simp only [Option.bind_eq_some_iff] at h
    obtain ⟨_, _, _, _, h⟩ := h
    split at h <;> try (cases h; done)
    injection h with h; injection h with _ h; subst h
    simpa [Op.operands] using hx
  case field s y k =>
    split at h <;> try (cases h; done)
    simp only [Option.bind_eq_some_iff, Option.map_eq_some_iff, Prod.mk.injEq] at h
    obtain ⟨_, _, _, _, _, rfl⟩ := h
    simpa [Op.operands] using hx
  case indexAddr t y i =>
    split at h <;> try (cases h; done)
    all_goals
      simp only [Option.map_eq_some_iff, Prod.mk.injEq] at h
      obtain ⟨_, _, _, rfl⟩ := h
      simpa [Op.operands] using hx
  case index t y i =>
    split at h <;> try (cases h; done)
    · injection h with h; injection h with _ h; subst h
      simpa [Op.operands] using hx
    · simp only [Option.bind_eq_some_iff, Option.map_eq_some_iff, Prod.mk.injEq] at h
      obtain ⟨_, _, _, _, _, rfl⟩ := h
      simpa [Op.operands] using hx
  case makeSlice t l c =>
    split at h <;> try (cases h; done)
    simp only [Option.bind_eq_some_iff] at h
    obtain ⟨_, _, _, _, h⟩ := h
    split at h <;> try (cases h; done)
    injection h with h; injection h with _ h; subst h
    simpa [Op.operands] using hx

end Go.Proofs.Ago
