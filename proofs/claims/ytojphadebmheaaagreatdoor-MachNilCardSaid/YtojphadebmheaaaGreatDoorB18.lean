/- The abstract run is sound: what it answers, the model's call answers, in every world. -/
import Derived.Test.YtojphadebmheaaaGreatDoorB17b
namespace Go.Proofs.Ago
open Go
variable {P : Program} {M : Nat → Nat}

structure EnvRel (N : Nat) (φ : Phi) (μ : Mu) (E : Env) (a : Act) : Prop where
  rel : ∀ t, VRel φ μ (E t) (a.tmps.getD t undef)
  size : N ≤ a.tmps.size
  defers : a.defers = []

theorem EnvRel.mono {N : Nat} {φ φ' : Phi} {μ μ' : Mu} {E : Env} {a : Act} (h : EnvRel N φ μ E a) (he : Ext φ μ φ' μ') : EnvRel N φ' μ' E a :=
  ⟨fun t => (h.rel t).mono he, h.size, h.defers⟩

theorem undef_rel (φ : Phi) (μ : Mu) : VRel φ μ undefA undef := .pure (.tup [] #[] rfl fun i hi => by simp at hi)

theorem EnvRel.opd {N : Nat} {φ : Phi} {μ : Mu} {E : Env} {a : Act} (h : EnvRel N φ μ E a) (x : Operand) : VRel φ μ (aval E x) (a.eval x) := by
  cases x with
  | tmp t => exact h.rel t
  | const v => exact .pure (absV_rel μ v)
  | global g => exact .pure (.unk _)
  | func f => exact .pure (.fn _ _ _ #[] #[] rfl rfl (fun i hi => by simp at hi) (fun i hi => by simp at hi))

theorem EnvRel.put {N : Nat} {φ : Phi} {μ : Mu} {E : Env} {a : Act} (h : EnvRel N φ μ E a) {dst : Option Tmp} (hd : ∀ d, dst = some d → d < N) {v : AV} {c : Value} (hv : VRel φ μ v c) : EnvRel N φ μ (E.put dst v) (a.put dst c) := by
  cases dst with
  | none => exact h
  | some d =>
    have hN := hd d rfl
    have hs := h.size
    have hlt : d < a.tmps.size := Nat.lt_of_lt_of_le hN hs
    refine ⟨fun t => ?_, by simp [Act.put]; exact h.size, h.defers⟩
    by_cases ht : t = d
    · subst ht
      have : t < a.tmps.size := hlt
      simpa [Env.put, Act.put, this] using hv
    · have := h.rel t
      simpa [Env.put, ht, Act.put, Array.getElem?_setIfInBounds_ne (Ne.symm ht)] using this

theorem wanted_sound {N : Nat} {φ : Phi} {μ : Mu} {E : Env} {a : Act} (h : EnvRel N φ μ E a) {ops : Array Oper} {o : Oper} {b : Bool} (hw : wantedA ops E o = some b) : Region.wanted o (yielded ops a.tmps) = b := by
  unfold wantedA at hw
  unfold Region.wanted
  cases hg : o.guard with
  | none => simp [hg] at hw; simp [hw]
  | some gw =>
    obtain ⟨g, want⟩ := gw
    simp only [hg] at hw ⊢
    unfold yielded
    cases ht : (ops[g]?).bind (·.dst) with
    | none => simp [ht] at hw; subst hw; simp
    | some t =>
      simp only [ht] at hw
      have hr := h.rel t
      simp only [Option.bind_some]
      have hget : a.tmps.getD t undef = (a.tmps[t]?).getD undef := by simp
      cases hv : a.tmps[t]? with
      | none =>
        rw [hget, hv] at hr
        split at hw
        · rename_i b' he
          rw [he] at hr
          have := hr.bool_inv
          cases this
        · cases hw
        · injection hw with hw
      | some v =>
        rw [hget, hv] at hr
        simp only [Option.getD_some] at hr
        split at hw
        · rename_i b' he
          rw [he] at hr
          rw [hr.bool_inv]
          injection hw with hw
        · cases hw
        · rename_i h1 h2
          injection hw with hw; subst hw
          cases v with
          | bool b' =>
            exfalso
            generalize E t = u at *
            cases hr with
            | pure hp => cases hp with
              | bool => exact h1 _ rfl
              | unk => exact h2 rfl
          | _ => rfl

/-- Calls answer as the abstract ones do. -/
def CallOk (P : Program) (call : CallF) : Prop := ∀ f args st r st', call f args st = some (r, st') →
  (∃ fn, P.funcs[f]? = some fn ∧ (fn.name == "runtime.NumGoroutine") = false ∧ fn.body.isNone = false) ∧
  ∀ (B : Base) (φ : Phi) (μ : Mu) (w : World) (cargs : Array Value), Sim B φ μ st w → cargs.size = args.length → (∀ i, i < args.length → VRel φ μ (args.getD i .unk) (cargs.getD i undef)) →
    Calls P f cargs w fun e w' => ∃ cv φ' μ', e = .returned cv ∧ VRel φ' μ' r cv ∧ Sim B φ' μ' st' w' ∧ Ext φ μ φ' μ'

theorem callH_sound {call : CallF} (hcall : CallOk P call) {hid : List Nat} {f : Nat} {args : List AV} {st : Store} {r : AV} {st' : Store} (h : callH hid call f args st = some (r, st')) :
    (∃ fn, P.funcs[f]? = some fn ∧ (fn.name == "runtime.NumGoroutine") = false ∧ fn.body.isNone = false) ∧
    ∀ (B : Base) (φ : Phi) (μ : Mu) (w : World) (cargs : Array Value), Sim B φ μ st w → cargs.size = args.length → (∀ i, i < args.length → VRel φ μ (args.getD i .unk) (cargs.getD i undef)) →
      Calls P f cargs w fun e w' => ∃ cv φ' μ', e = .returned cv ∧ VRel φ' μ' r cv ∧ Sim B φ' μ' st' w' ∧ Ext φ μ φ' μ' := by
  cases hid with
  | nil => exact hcall f args st r st' h
  | cons a l =>
    simp only [callH, Option.bind_eq_some_iff] at h
    obtain ⟨⟨r1, st1⟩, h1, h⟩ := h
    split at h <;> try (cases h; done)
    injection h with h; injection h with h2 h3; subst h2; subst h3
    obtain ⟨g1, g2⟩ := hcall f args _ r1 st1 h1
    refine ⟨g1, fun B φ μ w cargs hs hsz hr => (g2 _ φ μ w cargs (hs.mask (a :: l)) hsz hr).mono fun e w' hp => ?_⟩
    obtain ⟨cv, φ', μ', rfl, k1, k2, k3⟩ := hp
    exact ⟨cv, φ', μ', rfl, k1, hs.unmask k2 k3, k3⟩

theorem run_callFunc {f : FuncId} {fn : Func} {args : Array Value} {w : World} (hf : P.funcs[f]? = some fn) (hn : (fn.name == "runtime.NumGoroutine") = false) (hb : fn.body.isNone = false) : (callFunc f args).run P w = .ok (.enter f args) w := by
  simp only [callFunc, Sem.run_bind, run_program, Result.andThen_ok, hf, hn, hb, Bool.false_eq_true, if_false, Sem.run_pure]

section
variable {B : Base} {φ : Phi} {μ : Mu} {st : Store} {w : World}

theorem exec_sound {call : CallF} (hcall : CallOk P call) {q : Option Nat} {hid : List Nat} {N : Nat} {E : Env} {a : Act} {o : Oper} {v : AV} {st' : Store} (h : exec1 P M q hid call E st o = some (v, st')) (he : EnvRel N φ μ E a) (hs : Sim B φ μ st w)
    {K : Act → World → Prop} {Q : Exit → Act → World → Prop} (hK : ∀ cv w' φ' μ', VRel φ' μ' v cv → Sim B φ' μ' st' w' → Ext φ μ φ' μ' → K (a.put o.dst cv) w') : o.wp P a w K Q := by
  unfold exec1 at h
  have enter : ∀ hid f args, callH hid call f args st = some (v, st') → ∀ cargs : Array Value, cargs.size = args.length → (∀ i, i < args.length → VRel φ μ (args.getD i .unk) (cargs.getD i undef)) →
      (execOp a.eval o).run P w = (callFunc f cargs).run P w → o.wp P a w K Q := fun hid f args hc cargs hsz hr hrun => by
    obtain ⟨⟨fn, hf, hn, hb⟩, hcalls⟩ := callH_sound hcall hc
    unfold Oper.wp
    rw [hrun, run_callFunc hf hn hb, Oper.upon_enter]
    refine (hcalls B φ μ w cargs hs hsz hr).mono fun e w' hp => ?_
    obtain ⟨cv, φ', μ', rfl, h1, h2, h3⟩ := hp
    exact hK cv w' φ' μ' h1 h2 h3
  cases hr : resOp P o.op with
  | none => simp [hr] at h
  | some x =>
    obtain ⟨k, xs⟩ := x
    simp only [hr] at h
    cases k with
    | prim r =>
      simp only at h
      split at h <;> try (cases h; done)
      obtain ⟨n, cv, w', φ', μ', h1, h2, h3, h4, h5⟩ := prim_sound (P := P) hr h he.opd (fun _ => rfl) hs
      unfold Oper.wp
      rw [h1]
      rcases h2 with rfl | ⟨rfl, rfl⟩
      · rw [Oper.upon_value]; exact hK cv w' φ' μ' h3 h4 h5
      · rw [Oper.upon_skip]; exact hK undef w' φ' μ' h3 h4 h5
    | call f =>
      simp only at h
      have hop : ∃ args ats, o.op = .call ⟨.value (.func f), args, ats⟩ ∧ xs = args.toList := by
        rcases res_kind hr with ⟨r, h1⟩ | ⟨f', args, ats, h1, h2, h3⟩ | ⟨y, args, ats, h1, h2, h3⟩
        · cases h1
        · injection h2 with h2; subst h2; exact ⟨args, ats, h1, h3⟩
        · cases h2
      obtain ⟨args, ats, hop, rfl⟩ := hop
      refine enter _ f _ h (args.map a.eval) (by simp) (fun i hi => ?_) ?_
      · have hi' : i < args.size := by simpa using hi
        have := he.opd args[i]
        simpa [List.getD, hi'] using this
      · unfold execOp
        rw [hop]
        simp only [resolve, Act.eval, Deferred.ofValue, Sem.run_bind, Sem.run_pure, Result.andThen_ok, invoke]
        congr 1
        simp
    | clos =>
      cases xs with
      | nil => cases h
      | cons x xs =>
        simp only at h
        split at h <;> try (cases h; done)
        rename_i f first cap hx
        have hop : ∃ args ats, o.op = .call ⟨.value x, args, ats⟩ ∧ xs = args.toList := by
          rcases res_kind hr with ⟨r, h1⟩ | ⟨f', args, ats, h1, h2, h3⟩ | ⟨y, args, ats, h1, h2, h3⟩
          · cases h1
          · cases h2
          · injection h3 with h3 h4; subst h3; exact ⟨args, ats, h1, h4⟩
        obtain ⟨args, ats, hop, rfl⟩ := hop
        have hv := he.opd x
        rw [hx] at hv
        obtain ⟨as, bs, hev, hla, hlb, hra, hrb⟩ := hv.fn_inv
        refine enter _ f _ h (as ++ args.map a.eval ++ bs) (by simp; omega) (fun i hi => ?_) ?_
        · rcases Nat.lt_or_ge i first.length with h1 | h1
          · have := hra i h1
            have h2 : i < as.size := by omega
            have e1 : (first ++ args.toList.map (aval E) ++ cap).getD i .unk = first.getD i .unk := by simp [List.getD, List.append_assoc, List.getElem?_append_left h1]
            have e2 : (as ++ args.map a.eval ++ bs).getD i undef = as.getD i undef := by
              simp only [Array.getD_eq_getD_getElem?, Array.append_assoc, Array.getElem?_append_left h2]
            rw [e1, e2]; exact this
          · rcases Nat.lt_or_ge i (first.length + args.size) with h2 | h2
            · have h3 : i - first.length < args.size := by omega
              have := he.opd args[i - first.length]
              have e1 : (first ++ args.toList.map (aval E) ++ cap).getD i .unk = aval E args[i - first.length] := by
                simp only [List.getD, List.append_assoc]
                rw [List.getElem?_append_right h1, List.getElem?_append_left (by simpa using h3)]
                simp [h3]
              have e2 : (as ++ args.map a.eval ++ bs).getD i undef = a.eval args[i - first.length] := by
                simp only [Array.getD_eq_getD_getElem?, Array.append_assoc]
                rw [Array.getElem?_append_right (by omega), Array.getElem?_append_left (by simp; omega)]
                simp [hla, h3]
              rw [e1, e2]; exact this
            · have h3 : i - first.length - args.size < cap.length := by simp at hi; omega
              have := hrb _ h3
              have e1 : (first ++ args.toList.map (aval E) ++ cap).getD i .unk = cap.getD (i - first.length - args.size) .unk := by
                simp only [List.getD, List.append_assoc]
                rw [List.getElem?_append_right h1, List.getElem?_append_right (by simp; omega)]
                simp
              have e2 : (as ++ args.map a.eval ++ bs).getD i undef = bs.getD (i - first.length - args.size) undef := by
                simp only [Array.getD_eq_getD_getElem?, Array.append_assoc]
                rw [Array.getElem?_append_right (by omega), Array.getElem?_append_right (by simp; omega)]
                simp [hla]
              rw [e1, e2]; exact this
        · unfold execOp
          rw [hop]
          simp only [resolve, hev, Deferred.ofValue, Sem.run_bind, Sem.run_pure, Result.andThen_ok, invoke]

theorem step_sound {call : CallF} (hcall : CallOk P call) {q : Option Nat} {N : Nat} {ops : Array Oper} (hN : ∀ (i : Nat) (o : Oper) (d : Nat), ops[i]? = some o → o.dst = some d → d < N) {i : Nat} {E E' : Env} {a : Act} {st' : Store}
    (h : stepA P M q call ops i (E, st) = some (E', st')) (he : EnvRel N φ μ E a) (hs : Sim B φ μ st w) {K : Act → World → Prop} {Q : Exit → Act → World → Prop}
    (hK : ∀ a' w' φ' μ', EnvRel N φ' μ' E' a' → Sim B φ' μ' st' w' → Ext φ μ φ' μ' → K a' w') : wpOp P ops Q i K a w := by
  unfold stepA at h
  unfold wpOp
  cases ho : ops[i]? with
  | none =>
    simp only [ho, Option.some.injEq, Prod.mk.injEq] at h
    obtain ⟨rfl, rfl⟩ := h
    exact hK a w φ μ he hs (Ext.refl _ _)
  | some o =>
    simp only [ho] at h ⊢
    cases hw : wantedA ops E o with
    | none => simp [hw] at h
    | some b =>
      rw [wanted_sound he hw]
      cases b with
      | false =>
        simp only [hw, Option.some.injEq, Prod.mk.injEq] at h
        obtain ⟨rfl, rfl⟩ := h
        simp only [Bool.false_eq_true, if_false]
        exact hK _ w φ μ (he.put (fun d hd => hN i o d ho hd) (undef_rel φ μ)) hs (Ext.refl _ _)
      | true =>
        simp only [hw, Option.map_eq_some_iff, Prod.mk.injEq] at h
        obtain ⟨⟨v, sv⟩, hv, rfl, rfl⟩ := h
        simp only [if_true]
        exact .inl (exec_sound hcall hv he hs fun cv w' φ' μ' h1 h2 h3 => hK _ w' φ' μ' ((he.mono h3).put (fun d hd => hN i o d ho hd) h1) h2 h3)

theorem runL_sound {call : CallF} (hcall : CallOk P call) {q : Option Nat} {N : Nat} {ops : Array Oper} (hN : ∀ (i : Nat) (o : Oper) (d : Nat), ops[i]? = some o → o.dst = some d → d < N) {Q : Exit → Act → World → Prop} {E' : Env} {st' : Store} : ∀ (l : List Nat) (E : Env) (st : Store) (a : Act) (w : World) (φ : Phi) (μ : Mu),
    runL P M q call ops l (E, st) = some (E', st') → EnvRel N φ μ E a → Sim B φ μ st w → (∀ a' w' φ' μ', EnvRel N φ' μ' E' a' → Sim B φ' μ' st' w' → Ext φ μ φ' μ' → Q .normal a' w') → wpOps P ops Q l a w
  | [], E, st, a, w, φ, μ, h, he, hs, hQ => by
    simp only [runL, Option.some.injEq, Prod.mk.injEq] at h
    obtain ⟨rfl, rfl⟩ := h
    exact hQ a w φ μ he hs (Ext.refl _ _)
  | i :: l, E, st, a, w, φ, μ, h, he, hs, hQ => by
    simp only [runL, Option.bind_eq_some_iff] at h
    obtain ⟨⟨E1, st1⟩, h1, h2⟩ := h
    rw [wpOps_cons]
    exact step_sound hcall hN h1 he hs fun a' w' φ' μ' g1 g2 g3 => runL_sound hcall hN l E1 st1 a' w' φ' μ' h2 g1 g2 fun a2 w2 φ2 μ2 k1 k2 k3 => hQ a2 w2 φ2 μ2 k1 k2 (g3.trans k3)

theorem anyA_sound {call : CallF} (hcall : CallOk P call) {K : List Nat} {b : Nat} {tab : List ZP} {N : Nat} {ops : Array Oper} (hN : ∀ (i : Nat) (o : Oper) (d : Nat), ops[i]? = some o → o.dst = some d → d < N) {Q : Exit → Act → World → Prop} {R : Env × Store} : ∀ (fuel : Nat) (listed : Array Bool) (E : Env) (st : Store) (a : Act) (w : World) (φ : Phi) (μ : Mu),
    anyA P M K b tab call ops R fuel listed (E, st) → EnvRel N φ μ E a → Sim B φ μ st w → (∀ a' w' φ' μ', EnvRel N φ' μ' R.1 a' → Sim B φ' μ' R.2 w' → Ext φ μ φ' μ' → Q .normal a' w') → wpAny P .any ops Q fuel listed a w
  | 0, listed, E, st, a, w, φ, μ, h, he, hs, hQ => by
    obtain ⟨h1, rfl⟩ := h
    exact ⟨h1, hQ a w φ μ he hs (Ext.refl _ _)⟩
  | fuel + 1, listed, E, st, a, w, φ, μ, h, he, hs, hQ => by
    refine ⟨fun h0 => ?_, fun i hi => ?_⟩
    · have := h.1 h0
      subst this
      exact hQ a w φ μ he hs (Ext.refl _ _)
    · obtain ⟨_, ⟨E1, st1⟩, h1, h2⟩ := h.2 i hi
      exact step_sound hcall hN h1 he hs fun a' w' φ' μ' g1 g2 g3 => anyA_sound hcall hN fuel _ E1 st1 a' w' φ' μ' h2 g1 g2 fun a2 w2 φ2 μ2 k1 k2 k3 => hQ a2 w2 φ2 μ2 k1 k2 (g3.trans k3)

end
end Go.Proofs.Ago
