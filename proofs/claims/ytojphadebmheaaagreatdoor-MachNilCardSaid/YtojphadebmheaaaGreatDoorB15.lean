/- Every operation on values, as the model carries it out. -/
import Derived.Test.YtojphadebmheaaaGreatDoorB14b
namespace Go.Proofs.Ago
open Go
variable {P : Program}
section
variable {B : Base} {φ : Phi} {μ : Mu} {st : Store} {w : World}

theorem map_eq_one {α β : Type} {f : α → β} {l : List α} {b : β} (h : l.map f = [b]) : ∃ a, l = [a] ∧ f a = b := by
  match l, h with
  | [a], h => exact ⟨a, rfl, by simpa using h⟩

theorem map_eq_two {α β : Type} {f : α → β} {l : List α} {b c : β} (h : l.map f = [b, c]) : ∃ a d, l = [a, d] ∧ f a = b ∧ f d = c := by
  match l, h with
  | [a, d], h => simp at h; exact ⟨a, d, rfl, h.1, h.2⟩

theorem arr_one {α : Type} {a : Array α} {x : α} (h : a.toList = [x]) : a = #[x] := by
  apply Array.ext'; simpa using h
theorem arr_two {α : Type} {a : Array α} {x y : α} (h : a.toList = [x, y]) : a = #[x, y] := by
  apply Array.ext'; simpa using h
theorem arr_size_one {α : Type} {a : Array α} (h : a.size = 1) : ∃ t, a = #[t] := by
  obtain ⟨l⟩ := a
  match l, h with
  | [t], _ => exact ⟨t, rfl⟩
theorem arr_size_two {α : Type} {a : Array α} (h : a.size = 2) : ∃ t u, a = #[t, u] := by
  obtain ⟨l⟩ := a
  match l, h with
  | [t, u], _ => exact ⟨t, u, rfl⟩

theorem s_builtin {b : Builtin} {ts : Array TypeId} {r : ROp} {args : Array Operand} {ty : TypeId} {consts : Array Bool} {E : Operand → AV} {ρ : Operand → Value} {v : AV} {st' : Store} (hsz : args.size = ts.size) (hres : resBuiltin P b ts = some r)
    {sl : Option Nat} (h : rop sl r (args.toList.map E) st = some (v, st')) (hρ : ∀ x, VRel φ μ (E x) (ρ x)) (hs : Sim B φ μ st w) : OutS P B φ μ (builtin b ts ty consts (args.map ρ)) v st' w := by
  cases b <;> simp only [resBuiltin] at hres <;> try (cases hres; done)
  case len =>
    simp only [Option.bind_eq_some_iff] at hres
    obtain ⟨t, ht, hres⟩ := hres
    split at hres <;> try (cases hres; done)
    · rename_i hu
      injection hres with hres; subst hres
      have h' : rLens st (args.toList.map E) = some (v, st') := h
      have h2 := h'
      unfold rLens at h2
      split at h2 <;> try (cases h2; done)
      rename_i heq
      obtain ⟨x, hx, _⟩ := map_eq_one heq
      obtain rfl := arr_one hx
      obtain ⟨t', rfl⟩ := arr_size_one hsz.symm
      obtain rfl : t' = t := by simpa using ht
      rw [show (#[x] : Array Operand).map ρ = #[ρ x] from by simp]
      exact (s_lens hu (by simpa using h') (hρ x) hs).next
    · rename_i e hu
      injection hres with hres; subst hres
      have h' : rLen st (args.toList.map E) = some (v, st') := h
      have h2 := h'
      have hone : ∃ a, args.toList.map E = [a] := by
        unfold rLen at h2
        split at h2 <;> first | exact ⟨_, by assumption⟩ | cases h2
      obtain ⟨a, heq⟩ := hone
      obtain ⟨x, hx, _⟩ := map_eq_one heq
      obtain rfl := arr_one hx
      obtain ⟨t', rfl⟩ := arr_size_one hsz.symm
      obtain rfl : t' = t := by simpa using ht
      rw [show (#[x] : Array Operand).map ρ = #[ρ x] from by simp]
      exact (s_len hu (by simpa using h') (hρ x) hs).next
    · rename_i n e hu
      injection hres with hres; subst hres
      have h' : rLenK st n (args.toList.map E) = some (v, st') := h
      unfold rLenK at h'
      split at h' <;> try (cases h'; done)
      rename_i a heq
      obtain ⟨x, hx, _⟩ := map_eq_one heq
      obtain rfl := arr_one hx
      obtain ⟨t', rfl⟩ := arr_size_one hsz.symm
      obtain rfl : t' = t := by simpa using ht
      injection h' with h'; injection h' with h1 h2; subst h1; subst h2
      rw [show (#[x] : Array Operand).map ρ = #[ρ x] from by simp]
      refine OutV.next (m := Builtin.len_ #[t'] ty #[ρ x]) (.same hs (cv := .int .i64 n) ?_ (vint _ _))
      simp [Builtin.len_, run_underlying hu, goInt]
  case append =>
    simp only [Option.bind_eq_some_iff] at hres
    obtain ⟨t, ht, u, hu, hres⟩ := hres
    have main : ∀ (i : TypeInfo) (sb : Bool) (e : TypeId), r = .append i.size i.bytes sb e → (∀ a b, rAppend st sl i.size i.bytes sb e [a, b] = some (v, st') → ∀ x y, VRel φ μ a x → VRel φ μ b y → OutV P B φ μ (Builtin.append_ #[t, u] ty #[x, y]) v st' w) →
        OutS P B φ μ (builtin .append ts ty consts (args.map ρ)) v st' w := fun i sb e hr hk => by
      subst hr
      have h' : rAppend st sl i.size i.bytes sb e (args.toList.map E) = some (v, st') := h
      have h2 := h'
      unfold rAppend at h2
      split at h2 <;> try (cases h2; done)
      rename_i a b heq
      obtain ⟨x, y, hxy, rfl, rfl⟩ := map_eq_two heq
      obtain rfl := arr_two hxy
      obtain ⟨t', u', rfl⟩ := arr_size_two hsz.symm
      obtain rfl : t' = t := by simpa using ht
      obtain rfl : u' = u := by simpa using hu
      rw [show (#[x, y] : Array Operand).map ρ = #[ρ x, ρ y] from by simp]
      exact (hk _ _ (by simpa using h') (ρ x) (ρ y) (hρ x) (hρ y)).next
    split at hres <;> try (cases hres; done)
    · rename_i e e' ht' hu'
      simp only [Option.bind_eq_some_iff] at hres
      obtain ⟨i, hi, z, hz, hres⟩ := hres
      split at hres <;> try (cases hres; done)
      rename_i hzs
      injection hres with hres
      exact main i false _ hres.symm fun a b hh x y hx hy => s_append ht' (.inl ⟨rfl, hu'⟩) hi hz hzs hh hx hy hs
    · rename_i e ht' hu'
      simp only [Option.bind_eq_some_iff] at hres
      obtain ⟨i, hi, z, hz, hres⟩ := hres
      split at hres <;> try (cases hres; done)
      rename_i hzs
      injection hres with hres
      exact main i true _ hres.symm fun a b hh x y hx hy => s_append (e' := 0) ht' (.inr ⟨rfl, hu', hzs.2⟩) hi hz hzs.1 hh hx hy hs
  case min =>
    injection hres with hres; subst hres
    have h' : rMin2 st (args.toList.map E) = some (v, st') := h
    have h2 := h'
    unfold rMin2 at h2
    split at h2 <;> try (cases h2; done)
    rename_i heq
    obtain ⟨x, y, hxy, hx, hy⟩ := map_eq_two heq
    obtain rfl := arr_two hxy
    rw [show (#[x, y] : Array Operand).map ρ = #[ρ x, ρ y] from by simp]
    exact (s_min2 (by simpa using h') (hρ x) (hρ y) hs).next
  case max =>
    injection hres with hres; subst hres
    have h' : rMax2 st (args.toList.map E) = some (v, st') := h
    have h2 := h'
    unfold rMax2 at h2
    split at h2 <;> try (cases h2; done)
    rename_i heq
    obtain ⟨x, y, hxy, hx, hy⟩ := map_eq_two heq
    obtain rfl := arr_two hxy
    rw [show (#[x, y] : Array Operand).map ρ = #[ρ x, ρ y] from by simp]
    exact (s_max2 (by simpa using h') (hρ x) (hρ y) hs).next
  case unsafeSliceData =>
    injection hres with hres; subst hres
    have h' : rUsd st (args.toList.map E) = some (v, st') := h
    have hone : ∃ a, args.toList.map E = [a] := by
      have h2 := h'
      unfold rUsd at h2
      split at h2 <;> first | exact ⟨_, by assumption⟩ | cases h2
    obtain ⟨a, heq⟩ := hone
    obtain ⟨x, hx, _⟩ := map_eq_one heq
    obtain rfl := arr_one hx
    rw [show (#[x] : Array Operand).map ρ = #[ρ x] from by simp]
    exact (s_usd (by simpa using h') (hρ x) hs).next
  case unsafeString =>
    simp only [Option.bind_eq_some_iff] at hres
    obtain ⟨pt, hpt, hres⟩ := hres
    split at hres <;> try (cases hres; done)
    rename_i e hpu
    split at hres <;> try (cases hres; done)
    rename_i hce
    injection hres with hres; subst hres
    have h' : rUstr st e (args.toList.map E) = some (v, st') := h
    have htwo : ∃ a b, args.toList.map E = [a, b] := by
      have h2 := h'
      unfold rUstr at h2
      split at h2 <;> first | exact ⟨_, _, by assumption⟩ | cases h2
    obtain ⟨a, b, heq⟩ := htwo
    obtain ⟨x, y, hxy, rfl, rfl⟩ := map_eq_two heq
    obtain rfl := arr_two hxy
    obtain ⟨t', u', rfl⟩ := arr_size_two hsz.symm
    obtain rfl : t' = pt := by simpa using hpt
    rw [show (#[x, y] : Array Operand).map ρ = #[ρ x, ρ y] from by simp]
    exact (s_ustr hpu hce (by simpa using h') (hρ x) (hρ y) hs).next

theorem list_get {l : List Operand} {E : Operand → AV} {ρ : Operand → Value} (hρ : ∀ x, VRel φ μ (E x) (ρ x)) (i : Nat) (hi : i < l.length) : VRel φ μ ((l.map E).getD i .unk) ((l.map ρ).toArray.getD i undef) := by
  have := hρ l[i]
  simpa [List.getD, hi] using this

theorem s_binop {op : BinOp} {t : TypeId} {x y : Operand} {r : ROp} {E : Operand → AV} {ρ : Operand → Value} {sl : Option Nat} {v : AV} {st' : Store} (hres : resBin P op t = some r) (h : rop sl r [E x, E y] st = some (v, st')) (hρ : ∀ x, VRel φ μ (E x) (ρ x))
    (hs : Sim B φ μ st w) : OutV P B φ μ (do eqGuard op t x y (ρ x) (ρ y); binOp op t (ρ x) (ρ y)) v st' w := by
  have hx := hρ x
  have hy := hρ y
  unfold resBin at hres
  have eqs : (op = .eql ∨ op = .neq) → (match P.underlying t with
      | some .bool => some (.eqb (op == .neq))
      | some (.int _) | some .string => some (.bin op)
      | some (.pointer e) => (P.info? e).map fun _ => .eqp (op == .neq)
      | some (.slice _) => some (.eqs (op == .neq))
      | some (.struct _) => if P.eqGuardType P.depth t then none else (sizeA P t).bind fun n => (leaves P 10 t 0).map (.eqc (op == .neq) n)
      | _ => none) = some r → OutV P B φ μ (do eqGuard op t x y (ρ x) (ρ y); binOp op t (ρ x) (ρ y)) v st' w := fun hop hres => by
    split at hres <;> try (cases hres; done)
    · rename_i ht
      injection hres with hres; subst hres
      exact s_eqb ht hop h hx hy hs
    · injection hres with hres; subst hres
      exact s_bin h hx hy hs
    · injection hres with hres; subst hres
      exact s_bin h hx hy hs
    · rename_i e ht
      simp only [Option.map_eq_some_iff] at hres
      obtain ⟨i, hi, rfl⟩ := hres
      exact s_eqp ht hi hop h hx hy hs
    · rename_i e ht
      injection hres with hres; subst hres
      exact s_eqs ht hop h hx hy hs
    · rename_i fs ht
      split at hres <;> try (cases hres; done)
      rename_i hg
      simp only [Option.bind_eq_some_iff, Option.map_eq_some_iff] at hres
      obtain ⟨n, hn, l, hl, rfl⟩ := hres
      exact s_eqc ht (by simpa using hg) hl hn hop h hx hy hs
  split at hres
  · exact eqs (.inl rfl) hres
  · exact eqs (.inr rfl) hres
  · injection hres with hres; subst hres
    exact s_bin h hx hy hs

theorem prim_sound {o : Oper} {r : ROp} {xs : List Operand} {E : Operand → AV} {ρ : Operand → Value} {sl : Option Nat} {v : AV} {st' : Store} (hres : resOp P o.op = some (.prim r, xs)) (h : rop sl r (xs.map E) st = some (v, st')) (hρ : ∀ x, VRel φ μ (E x) (ρ x))
    (hfun : ∀ f, ρ (.func f) = .func (.func f) #[] #[]) (hs : Sim B φ μ st w) : OutS P B φ μ (execOp ρ o) v st' w := by
  obtain ⟨dst, op, type, pos, after, guard⟩ := o
  simp only at hres
  cases op <;> simp only [resOp] at hres <;> try (cases hres; done)
  case move x =>
    injection hres with hres; injection hres with h1 h2; injection h1 with h1; subst h1; subst h2
    simp only [rop, rMov, List.map] at h
    injection h with h; injection h with h1 h2; subst h1; subst h2
    exact ⟨_, _, w, φ, μ, rfl, .inl rfl, hρ x, hs, Ext.refl _ _⟩
  case assign x =>
    injection hres with hres; injection hres with h1 h2; injection h1 with h1; subst h1; subst h2
    simp only [rop, rMov, List.map] at h
    injection h with h; injection h with h1 h2; subst h1; subst h2
    exact ⟨_, _, w, φ, μ, rfl, .inl rfl, hρ x, hs, Ext.refl _ _⟩
  case pick c a b =>
    injection hres with hres; injection hres with h1 h2; injection h1 with h1; subst h1; subst h2
    obtain ⟨cv, w', φ', μ', h1, h2⟩ := s_pick (P := P) (w := w) h (hρ c) (hρ a) (hρ b) hs
    refine ⟨.value cv, cv, w', φ', μ', ?_, .inl rfl, h2⟩
    simp only [execOp]
    simp only [Sem.run_bind, Sem.run_pure] at h1 ⊢
    generalize (asBool (ρ c)).run P w = q at h1 ⊢
    cases q with
    | ok b' w'' => simp only [Result.andThen_ok] at h1 ⊢; injection h1 with h1 h3; rw [h1, h3]
    | halt => cases h1
  case alloc t =>
    simp only [Option.map_eq_some_iff, Prod.mk.injEq] at hres
    obtain ⟨z, hz, h1, rfl⟩ := hres
    injection h1 with h1; subst h1
    exact (s_alloc hz h hs).next
  case box t x =>
    injection hres with hres; injection hres with h1 h2; injection h1 with h1; subst h1; subst h2
    exact (s_box h (hρ x) hs).next
  case build t parts =>
    simp only [Option.bind_eq_some_iff, Option.map_eq_some_iff, Prod.mk.injEq] at hres
    obtain ⟨z, hz, pl, hpl, h1, rfl⟩ := hres
    injection h1 with h1; subst h1
    exact (s_build hz hpl h hρ hs).next
  case buildSlice t n parts =>
    split at hres <;> try (cases hres; done)
    rename_i e hu
    simp only [Option.bind_eq_some_iff] at hres
    obtain ⟨i, hi, z, hz, hres⟩ := hres
    split at hres <;> try (cases hres; done)
    rename_i hc
    injection hres with hres; injection hres with h1 h2; injection h1 with h1; subst h1; subst h2
    exact (s_bslice hu hi hz hc.1 hc.2 h hρ hs).next
  case load t a =>
    simp only [Option.map_eq_some_iff, Prod.mk.injEq] at hres
    obtain ⟨l, hl, h1, rfl⟩ := hres
    injection h1 with h1; subst h1
    exact (s_load hl h (hρ a) hs).next
  case store t a x =>
    simp only [Option.map_eq_some_iff, Prod.mk.injEq] at hres
    obtain ⟨n, hn, h1, rfl⟩ := hres
    injection h1 with h1; subst h1
    obtain ⟨w', h1, rfl, h2⟩ := s_store (P := P) hn h (hρ a) (hρ x) hs
    refine ⟨.skip, undef, w', φ, μ, ?_, .inr ⟨rfl, rfl⟩, .pure (.tup [] #[] rfl fun i hi => by simp at hi), h2, Ext.refl _ _⟩
    simp only [execOp, Sem.run_bind, h1, Result.andThen_ok, Sem.run_pure]
  case nilCheck x =>
    injection hres with hres; injection hres with h1 h2; injection h1 with h1; subst h1; subst h2
    exact s_nilchk rfl rfl h (hρ x) hs
  case binOp op t x y ty =>
    simp only [Option.map_eq_some_iff, Prod.mk.injEq] at hres
    obtain ⟨r', hr', h1, rfl⟩ := hres
    injection h1 with h1; subst h1
    exact (s_binop hr' h hρ hs).next
  case unOp op t x =>
    injection hres with hres; injection hres with h1 h2; injection h1 with h1; subst h1; subst h2
    exact (s_un h (hρ x) hs).next
  case convert s d x =>
    split at hres <;> try (cases hres; done)
    · rename_i k0 k hu1 hu2
      injection hres with hres; injection hres with h1 h2; injection h1 with h1; subst h1; subst h2
      exact (s_cint hu1 hu2 h (hρ x) hs).next
    · rename_i hu1 hu2
      injection hres with hres; injection hres with h1 h2; injection h1 with h1; subst h1; subst h2
      exact (s_cstr hu1 hu2 h (hρ x) hs).next
    · rename_i e hu1 hu2
      split at hres <;> try (cases hres; done)
      rename_i hue
      injection hres with hres; injection hres with h1 h2; injection h1 with h1; subst h1; subst h2
      exact (s_cbs hu1 hue hu2 h (hρ x) hs).next
    · rename_i t hu1 hu2
      simp only [Option.bind_eq_some_iff] at hres
      obtain ⟨n, hn, hres⟩ := hres
      split at hres <;> try (cases hres; done)
      rename_i h0
      injection hres with hres; injection hres with h1 h2; injection h1 with h1; subst h1; subst h2
      exact (s_cvp hu1 hu2 hn h0 h (hρ x) hs).next
    · rename_i u hu1 hu2
      simp only [Option.bind_eq_some_iff] at hres
      obtain ⟨n, hn, hres⟩ := hres
      split at hres <;> try (cases hres; done)
      injection hres with hres; injection hres with h1 h2; injection h1 with h1; subst h1; subst h2
      exact (s_cvu hu1 hu2 hn h (hρ x) hs).next
  case makeInterface t x =>
    split at hres <;> try (cases hres; done)
    rename_i d hni hu
    injection hres with hres; injection hres with h1 h2; injection h1 with h1; subst h1; subst h2
    simp only [rop, rMkIface, List.map] at h
    injection h with h; injection h with h1 h2; subst h1; subst h2
    refine OutV.next (m := Instr.makeInterface t (ρ x)) (.same hs (cv := .iface t (ρ x)) ?_ (.ifc _ _ _ (hρ x)))
    simp only [Instr.makeInterface, Sem.run_bind, run_underlying hu, Result.andThen_ok]
    cases d <;> first | rfl | exact absurd rfl (hni _)
  case makeFunc f first cap =>
    injection hres with hres; injection hres with h1 h2; injection h1 with h1; subst h1; subst h2
    simp only [rop] at h
    injection h with h; injection h with h1 h2; subst h1; subst h2
    refine OutV.next (m := Instr.makeFunc f (first.map ρ) (cap.map ρ)) (.same hs (cv := .func f (first.map ρ) (cap.map ρ)) rfl ?_)
    have e1 : ((first.toList ++ cap.toList).map (E)).take first.size = first.toList.map E := by simp
    have e2 : ((first.toList ++ cap.toList).map (E)).drop first.size = cap.toList.map E := by simp
    rw [e1, e2]
    refine .fn _ _ _ _ _ (by simp) (by simp) (fun i hi => ?_) (fun i hi => ?_)
    · have hi' : i < first.size := by simpa using hi
      have := hρ first[i]
      simpa [List.getD, hi'] using this
    · have hi' : i < cap.size := by simpa using hi
      have := hρ cap[i]
      simpa [List.getD, hi'] using this
  case makeSlice t l c =>
    split at hres <;> try (cases hres; done)
    rename_i e hu
    simp only [Option.bind_eq_some_iff] at hres
    obtain ⟨i, hi, z, hz, hres⟩ := hres
    split at hres <;> try (cases hres; done)
    rename_i hc
    injection hres with hres; injection hres with h1 h2; injection h1 with h1; subst h1; subst h2
    exact (s_mkSlice hu hi hz hc h (hρ l) (hρ c) hs).next
  case makeMap t hint =>
    cases hint with
    | some x => cases hres
    | none =>
      injection hres with hres; injection hres with h1 h2; injection h1 with h1; subst h1; subst h2
      simp only [rop] at h
      injection h with h; injection h with h1 h2; subst h1; subst h2
      exact ⟨.value (.map (some w.heap.size)), _, _, φ, μ, rfl, .inl rfl, .pure (.opq _), hs.grow (Grows.alloc w _), Ext.refl _ _⟩
  case slice t x lo hi mx =>
    split at hres <;> try (cases hres; done)
    · rename_i hu
      split at hres <;> try (cases hres; done)
      rename_i hmx
      injection hres with hres; injection hres with h1 h2; injection h1 with h1; subst h1; subst h2
      have : mx = none := by cases mx <;> simp_all
      subst this
      exact (s_sstr hu h hρ hs).next
    · rename_i e hu
      simp only [Option.bind_eq_some_iff] at hres
      obtain ⟨n, hn, hres⟩ := hres
      split at hres <;> try (cases hres; done)
      rename_i hc
      injection hres with hres; injection hres with h1 h2; injection h1 with h1; subst h1; subst h2
      exact (s_ssl hu hn (fun hm => by cases hi <;> simp_all) h hρ hs).next
    · rename_i n e hu
      simp only [Option.bind_eq_some_iff] at hres
      obtain ⟨z, hz, hres⟩ := hres
      split at hres <;> try (cases hres; done)
      rename_i hc
      have hmx : mx = none := by cases mx <;> simp_all
      have hz1 : z = 1 := by omega
      injection hres with hres; injection hres with h1 h2; injection h1 with h1; subst h1; subst h2
      subst hmx
      subst hz1
      exact (s_sla hu hz h hρ hs).next
  case fieldAddr s x k =>
    split at hres <;> try (cases hres; done)
    rename_i fs hu
    simp only [Option.bind_eq_some_iff] at hres
    obtain ⟨f, hf, n, hn, hres⟩ := hres
    split at hres <;> try (cases hres; done)
    rename_i h0
    injection hres with hres; injection hres with h1 h2; injection h1 with h1; subst h1; subst h2
    exact (s_faddr hu hf hn h0 h (hρ x) hs).next
  case field t x k =>
    split at hres <;> try (cases hres; done)
    rename_i fs hu
    simp only [Option.bind_eq_some_iff, Option.map_eq_some_iff, Prod.mk.injEq] at hres
    obtain ⟨f, hf, l, hl, h1, rfl⟩ := hres
    injection h1 with h1; subst h1
    exact (s_field hu hf hl h (hρ x) hs).next
  case indexAddr t x i =>
    split at hres <;> try (cases hres; done)
    · rename_i e hu
      simp only [Option.map_eq_some_iff, Prod.mk.injEq] at hres
      obtain ⟨n, hn, h1, rfl⟩ := hres
      injection h1 with h1; subst h1
      exact (s_ixs hu hn h (hρ x) (hρ i) hs).next
    · rename_i m e hu
      simp only [Option.map_eq_some_iff, Prod.mk.injEq] at hres
      obtain ⟨n, hn, h1, rfl⟩ := hres
      injection h1 with h1; subst h1
      exact (s_ixp hu hn h (hρ x) (hρ i) hs).next
  case index t x i =>
    split at hres <;> try (cases hres; done)
    · rename_i hu
      injection hres with hres; injection hres with h1 h2; injection h1 with h1; subst h1; subst h2
      exact (s_ixstr hu h (hρ x) (hρ i) hs).next
    · rename_i m e hu
      simp only [Option.bind_eq_some_iff, Option.map_eq_some_iff, Prod.mk.injEq] at hres
      obtain ⟨n, hn, l, hl, h1, rfl⟩ := hres
      injection h1 with h1; subst h1
      exact (s_ixa hu hn hl h (hρ x) (hρ i) hs).next
  case extract x i =>
    injection hres with hres; injection hres with h1 h2; injection h1 with h1; subst h1; subst h2
    exact (s_extract h (hρ x) hs).next
  case call c =>
    obtain ⟨callee, args, argTypes⟩ := c
    cases callee with
    | builtin b =>
      simp only at hres
      split at hres <;> try (cases hres; done)
      rename_i hsz
      simp only [Option.map_eq_some_iff, Prod.mk.injEq] at hres
      obtain ⟨r', hr', h1, rfl⟩ := hres
      injection h1 with h1; subst h1
      exact s_builtin hsz hr' h hρ hs
    | value f =>
      cases f with
      | func f =>
        simp only at hres
        split at hres
        · rename_i hsame
          split at hres <;> try (cases hres; done)
          rename_i hone
          injection hres with hres; injection hres with h1 h2; injection h1 with h1; subst h1; subst h2
          obtain ⟨x, rfl⟩ := arr_size_one hone
          simp only [rop, rMov, List.map] at h
          injection h with h; injection h with h1 h2; subst h1; subst h2
          refine ⟨.value (ρ x), ρ x, w, φ, μ, ?_, .inl rfl, hρ x, hs, Ext.refl _ _⟩
          unfold execOp
          simp only [resolve, hfun, Deferred.ofValue, Sem.run_bind, Sem.run_pure, Result.andThen_ok, invoke]
          simpa using run_same (w := w) hsame (ρ x)
        · simp at hres
      | _ => simp at hres
    | invoke a b => simp at hres

end
end Go.Proofs.Ago
