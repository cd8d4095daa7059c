/- Code and calls. -/
import Derived.Test.YtojphadebmheaaaGreatDoorB18
namespace Go.Proofs.Ago
open Go
variable {P : Program} {M : Nat → Nat}

def exitOf : AX → Exit
  | .normal => .normal
  | .exit i => .exit i
  | .goto l => .goto l
  | .ret => .ret

def PostX (B : Base) (φ : Phi) (μ : Mu) (N : Nat) (x : AX) (E' : Env) (st' : Store) : Exit → Act → World → Prop := fun e a w =>
  e = exitOf x ∧ ∃ φ' μ', EnvRel N φ' μ' E' a ∧ Sim B φ' μ' st' w ∧ Ext φ μ φ' μ'

theorem PostX.trans {B : Base} {φ φ' : Phi} {μ μ' : Mu} {N : Nat} {x : AX} {E' : Env} {st' : Store} (he : Ext φ μ φ' μ') {e : Exit} {a : Act} {w : World} (h : PostX B φ' μ' N x E' st' e a w) : PostX B φ μ N x E' st' e a w := by
  obtain ⟨h1, φ2, μ2, h2, h3, h4⟩ := h
  exact ⟨h1, φ2, μ2, h2, h3, he.trans h4⟩

def rvSem (tmps : Array Value) : ResultVar → Sem Value
  | .tmp t => pure (tmps.getD t undef)
  | .cell x t => do loadVar t (← asAddr (tmps.getD x undef))

theorem rounds_mono {c : Code} {Q Q' : Exit → Act → World → Prop} (h : ∀ e a w, Q e a w → Q' e a w) : ∀ (n : Nat) (a : Act) (w : World), Code.rounds P c Q n a w → Code.rounds P c Q' n a w
  | 0, _, _, hr => hr
  | n + 1, a, w, hr => by
    rw [rounds_succ] at hr ⊢
    refine wp_mono hr fun e a1 w1 h1 => ?_
    cases e with
    | normal => exact rounds_mono h n a1 w1 h1
    | _ => exact h _ _ _ h1

theorem mapM_results {φ : Phi} {μ : Mu} {B : Base} {N : Nat} {E : Env} {a : Act} {st : Store} {w : World} (he : EnvRel N φ μ E a) (hs : Sim B φ μ st w) : ∀ (l : List ResultVar) (vs : List AV), l.mapM (resV P E st) = some vs →
    ∃ cs : List Value, (l.mapM (rvSem a.tmps)).run P w = .ok cs w ∧ cs.length = vs.length ∧
      ∀ i, i < vs.length → VRel φ μ (vs.getD i .unk) (cs.getD i undef)
  | [], vs, h => by
    simp at h; subst h
    exact ⟨[], rfl, rfl, fun i hi => by simp at hi⟩
  | r :: l, vs, h => by
    simp only [List.mapM_cons, Option.bind_eq_bind, Option.bind_eq_some_iff, Option.pure_def, Option.some.injEq] at h
    obtain ⟨v, hv, vs', hvs, rfl⟩ := h
    obtain ⟨cs, h1, h2, h3⟩ := mapM_results he hs l vs' hvs
    have hone : ∃ c, (rvSem a.tmps r).run P w = .ok c w ∧ VRel φ μ v c := by
      cases r with
      | tmp t =>
        simp only [resV, Option.some.injEq] at hv
        subst hv
        exact ⟨_, rfl, he.rel t⟩
      | cell x t =>
        simp only [resV, Option.bind_eq_some_iff, Option.map_eq_some_iff] at hv
        obtain ⟨lay, hlay, ⟨v', s'⟩, hr, rfl⟩ := hv
        have hx := he.rel x
        obtain ⟨cv, w', φ', μ', g1, g2, g3, g4⟩ := s_load (P := P) hlay (show rLoad st lay [E x] = some (v', s') from hr) hx hs
        have hptr : ∃ ad, a.tmps.getD x undef = .pointer (some ad) := by
          have hr' : rLoad st lay [E x] = some (v', s') := hr
          unfold rLoad at hr'
          split at hr' <;> try (cases hr'; done)
          · rename_i heq; simp at heq; rw [heq] at hx
            obtain ⟨p, _, e⟩ := hx.ptr_inv; exact ⟨_, e⟩
          · rename_i heq; simp at heq; rw [heq] at hx
            obtain ⟨_, _, _, _, _, e⟩ := hx.eptr_inv; exact ⟨_, e⟩
        obtain ⟨ad, had⟩ := hptr
        rw [had] at g1
        simp only [Instr.loadAt, Instr.sureAddr, Sem.run_bind, Sem.run_pure, Result.andThen_ok] at g1
        have hcell : (asAddr (.pointer (some ad))).run P w = .ok ad w := rfl
        -- a load leaves the world alone
        have hw : w' = w ∧ VRel φ μ v' cv := by
          have hr' : rLoad st lay [E x] = some (v', s') := hr
          unfold rLoad at hr'
          split at hr' <;> try (cases hr'; done)
          · rename_i b i off heq; simp at heq; rw [heq] at hx
            split at hr' <;> try (cases hr'; done)
            rename_i esz xs ro hb
            simp only [Option.bind_eq_some_iff, Option.map_eq_some_iff, Prod.mk.injEq] at hr'
            obtain ⟨el, hel, r, hr2, rfl, rfl⟩ := hr'
            obtain ⟨p, hp, e⟩ := hx.ptr_inv
            obtain ⟨q, cs', T, hrow⟩ := hs.rows _ _ _ _ hb
            obtain rfl : q = p := Option.some.inj (hrow.at_.symm.trans hp)
            obtain ⟨hlt, _⟩ := List.getElem?_eq_some_iff.1 hel
            have hd : xs.getD i .unk = el := by simp [List.getD, hel]
            have hlen := hrow.els i hlt
            rw [hd] at hlen
            obtain ⟨c, k1, k2⟩ := run_load_lay (P := P) (φ := φ) (μ := μ) (w := w) hlay (blk := q.blk) (base := i * esz) (off := off) (cs := el.cells) (f := fun j => cs'.getD (i * esz + j) undef)
              (fun j hj => heap_cell hrow _ (by rw [hrow.size]; exact row_fit hlt (by omega) hrow.len)) (fun j hj => by have := hrow.rel i j hlt (by omega); rwa [hd] at this) hr2
            rw [had] at e
            injection e with e; injection e with e
            subst e
            rw [hrow.esz_] at g1
            simp only [Instr.loadAt, Instr.sureAddr, Sem.run_bind, Sem.run_pure, Result.andThen_ok] at k1
            rw [k1] at g1
            injection g1 with g1 g5
            subst g1
            exact ⟨g5.symm, k2⟩
          · rename_i el off heq; simp at heq; rw [heq] at hx
            simp only [Option.map_eq_some_iff, Prod.mk.injEq] at hr'
            obtain ⟨r, hr2, rfl, rfl⟩ := hr'
            obtain ⟨blk, base, g, hm, hg, e⟩ := hx.eptr_inv
            obtain ⟨c, k1, k2⟩ := run_load_lay (P := P) (φ := φ) (μ := μ) (w := w) hlay (blk := blk) (base := base) (off := off) (cs := el.cells) (f := g)
              (fun j hj => hs.mem _ _ _ (hm j hj)) (fun j hj => .pure (hg j hj)) hr2
            rw [had] at e
            injection e with e; injection e with e
            subst e
            simp only [Instr.loadAt, Instr.sureAddr, Sem.run_bind, Sem.run_pure, Result.andThen_ok] at k1
            rw [k1] at g1
            injection g1 with g1 g5
            subst g1
            exact ⟨g5.symm, k2⟩
        obtain ⟨rfl, hvr⟩ := hw
        exact ⟨cv, by simp only [rvSem, had, Sem.run_bind, hcell, Result.andThen_ok, g1], hvr⟩
    obtain ⟨c, hc, hr⟩ := hone
    refine ⟨c :: cs, ?_, by simp [h2], fun i hi => ?_⟩
    · simp only [List.mapM_cons, Sem.run_bind, hc, h1, Result.andThen_ok, Sem.run_pure]
    · cases i with
      | zero => simpa using hr
      | succ i => simpa using h3 i (by simpa using hi)

theorem resA_sound {φ : Phi} {μ : Mu} {B : Base} {N : Nat} {E : Env} {a : Act} {st : Store} {w : World} {fn : Func} {r : AV} (h : resA P fn E st = some r) (he : EnvRel N φ μ E a) (hs : Sim B φ μ st w) :
    ∃ v, (results fn a.tmps).run P w = .ok v w ∧ VRel φ μ r v := by
  unfold resA at h
  simp only [Option.map_eq_some_iff] at h
  obtain ⟨vs, hvs, rfl⟩ := h
  obtain ⟨cs, h1, h2, h3⟩ := mapM_results he hs _ _ hvs
  have hrun : (fn.results.mapM (rvSem a.tmps)).run P w = .ok cs.toArray w := by
    rw [Array.mapM_eq_mapM_toList]
    simp only [Sem.run_map, h1, Result.andThen_ok]
  have hres : results fn a.tmps = (do let vs ← fn.results.mapM (rvSem a.tmps); pure (if h : vs.size = 1 then vs[0] else .tuple vs)) := rfl
  rw [hres]
  simp only [Sem.run_bind, Sem.run_pure, hrun]
  simp only [Result.andThen_ok]
  refine ⟨_, rfl, ?_⟩
  match vs, cs, h2, h3 with
  | [], [], _, _ => exact .pure (.tup [] #[] rfl fun i hi => by simp at hi)
  | [v], [c], _, h3 => simpa [tupOf] using h3 0 (by simp)
  | v :: v' :: vs, c :: c' :: cs, h2, h3 =>
    have : ¬ ((c :: c' :: cs).toArray.size = 1) := by simp
    rw [dif_neg this]
    refine .tup _ _ (by simpa using h2) fun i hi => ?_
    have := h3 i hi
    simpa [List.getD] using this

theorem erase_pure : ∀ (n : Nat) (v : AV), v.pure = true → Still0 (erase n v)
  | 0, v, _ => fun st v' st' h => by simp [erase] at h
  | n + 1, v, hp => by
    have hl : ∀ (l : List AV), AV.pure.pureL l = true → ∀ st ys st', mapS (erase n) l st = some (ys, st') → st' = st ∧ ∀ st2, mapS (erase n) l st2 = some (ys, st2) := by
      intro l
      induction l with
      | nil => intro _ st ys st' h; simp [mapS] at h ⊢; obtain ⟨rfl, rfl⟩ := h; simp
      | cons x l ih =>
        intro hpl st ys st' h
        simp only [AV.pure.pureL, Bool.and_eq_true] at hpl
        simp only [mapS, Option.bind_eq_some_iff, Option.map_eq_some_iff] at h ⊢
        obtain ⟨⟨y, s1⟩, h1, ⟨zs, s2⟩, h2, h3⟩ := h
        simp only [Prod.mk.injEq] at h3
        obtain ⟨rfl, rfl⟩ := h3
        obtain ⟨rfl, g1⟩ := erase_pure n x hpl.1 _ _ _ h1
        obtain ⟨rfl, g2⟩ := ih hpl.2 _ _ _ h2
        exact ⟨rfl, fun st2 => ⟨(y, st2), g1 st2, (zs, st2), g2 st2, rfl⟩⟩
    intro st v' st' h
    cases v with
    | agg cs =>
      simp only [erase, Option.map_eq_some_iff] at h ⊢
      obtain ⟨⟨ys, s1⟩, h1, h2⟩ := h
      simp only [Prod.mk.injEq] at h2
      obtain ⟨rfl, rfl⟩ := h2
      obtain ⟨rfl, g⟩ := hl cs (by simpa [AV.pure] using hp) _ _ _ h1
      exact ⟨rfl, fun st2 => ⟨(ys, st2), g st2, rfl⟩⟩
    | tup cs =>
      simp only [erase, Option.map_eq_some_iff] at h ⊢
      obtain ⟨⟨ys, s1⟩, h1, h2⟩ := h
      simp only [Prod.mk.injEq] at h2
      obtain ⟨rfl, rfl⟩ := h2
      obtain ⟨rfl, g⟩ := hl cs (by simpa [AV.pure] using hp) _ _ _ h1
      exact ⟨rfl, fun st2 => ⟨(ys, st2), g st2, rfl⟩⟩
    | ifc t x =>
      simp only [erase, Option.map_eq_some_iff] at h ⊢
      obtain ⟨⟨y, s1⟩, h1, h2⟩ := h
      simp only [Prod.mk.injEq] at h2
      obtain ⟨rfl, rfl⟩ := h2
      obtain ⟨rfl, g⟩ := erase_pure n x (by simpa [AV.pure] using hp) _ _ _ h1
      exact ⟨rfl, fun st2 => ⟨(y, st2), g st2, rfl⟩⟩
    | fn f a b =>
      simp only [AV.pure, Bool.and_eq_true] at hp
      simp only [erase, Option.bind_eq_some_iff, Option.map_eq_some_iff] at h ⊢
      obtain ⟨⟨ys, s1⟩, h1, ⟨zs, s2⟩, h2, h3⟩ := h
      simp only [Prod.mk.injEq] at h3
      obtain ⟨rfl, rfl⟩ := h3
      obtain ⟨rfl, g1⟩ := hl a hp.1 _ _ _ h1
      obtain ⟨rfl, g2⟩ := hl b hp.2 _ _ _ h2
      exact ⟨rfl, fun st2 => ⟨(ys, st2), g1 st2, (zs, st2), g2 st2, rfl⟩⟩
    | ptr => simp [AV.pure] at hp
    | eptr => simp [AV.pure] at hp
    | osl => simp [AV.pure] at hp
    | asl => simp [AV.pure] at hp
    | unk => simp [erase] at h
    | _ => simp only [erase, Option.some.injEq, Prod.mk.injEq] at h ⊢; obtain ⟨rfl, rfl⟩ := h; simp

theorem mapS_pure (n : Nat) : ∀ (l : List AV), AV.pure.pureL l = true → ∀ st ys st', mapS (erase n) l st = some (ys, st') → st' = st ∧ ∀ st2, mapS (erase n) l st2 = some (ys, st2) := by
  intro l
  induction l with
  | nil => intro _ st ys st' h; simp [mapS] at h ⊢; obtain ⟨rfl, rfl⟩ := h; simp
  | cons x l ih =>
    intro hpl st ys st' h
    simp only [AV.pure.pureL, Bool.and_eq_true] at hpl
    simp only [mapS, Option.bind_eq_some_iff, Option.map_eq_some_iff] at h ⊢
    obtain ⟨⟨y, s1⟩, h1, ⟨zs, s2⟩, h2, h3⟩ := h
    simp only [Prod.mk.injEq] at h3
    obtain ⟨rfl, rfl⟩ := h3
    obtain ⟨rfl, g1⟩ := erase_pure n x hpl.1 _ _ _ h1
    obtain ⟨rfl, g2⟩ := ih hpl.2 _ _ _ h2
    exact ⟨rfl, fun st2 => ⟨(y, st2), g1 st2, (zs, st2), g2 st2, rfl⟩⟩

/-- A pure call's world, seen from its caller. -/
theorem Sim.back {B B2 : Base} {φ φ2 : Phi} {μ μ2 : Mu} {st st2 : Store} {w w2 : World} (h : Sim B φ μ st w) (hB : B2 = ⟨w, fun b => b < w.heap.size, μ, fun _ => False, fun _ => none⟩) (h2 : Sim B2 φ2 μ2 st2 w2) (he : ∀ b o v, μ b o = some v → μ2 b o = some v) :
    Sim B φ μ2 st w2 := by
  subst hB
  have hold : ∀ b, b < w.heap.size → w2.heap[b]? = w.heap[b]? := fun b hb => h2.frame b hb
  have hmu : ∀ b o, b < w.heap.size → μ2 b o = μ b o := fun b o hb => h2.mu b o hb
  have hx : Ext φ μ φ μ2 := ⟨fun _ _ h => h, he⟩
  exact ⟨h2.mem, fun i e xs r hi => by
      obtain ⟨p, cs, T, hr⟩ := h.rows i e xs r hi
      exact ⟨p, cs, T, hr.mono hx (hold _ hr.lt) fun o v hm => hr.mu o v (by rw [← hmu _ o hr.lt]; exact hm)⟩, h.inj, h.own,
    fun b hb => (hold b (h.lt b hb)).trans (h.frame b hb), fun b hb => h2.lt b (h.lt b hb), fun b o hb => (hmu b o (h.lt b hb)).trans (h.mu b o hb), h.dom, h.fresh, h.hid, h.io.trans h2.io⟩

theorem Sim.into {B : Base} {φ : Phi} {μ : Mu} {st : Store} {w : World} (h : Sim B φ μ st w) : Sim ⟨w, fun b => b < w.heap.size, μ, fun _ => False, fun _ => none⟩ (fun _ => none) μ [] w :=
  ⟨h.mem, fun i e xs r hi => by simp at hi, fun i j _ _ _ _ _ _ _ _ hi => by simp at hi, fun i _ _ _ _ hi => by simp at hi, fun _ _ => rfl, fun _ hb => hb, fun _ _ _ => rfl, (fun i p hp => by cases hp), (fun _ _ => rfl), (fun _ h => h.elim), Quiet.refl w⟩

theorem entry_rel {φ : Phi} {μ : Mu} {args : List AV} {cargs : Array Value} {n : Nat} (hsz : cargs.size = args.length) (hr : ∀ i, i < args.length → VRel φ μ (args.getD i .unk) (cargs.getD i undef)) :
    EnvRel n φ μ (entry args) { tmps := cargs ++ Array.replicate (n - cargs.size) undef, defers := [] } := by
  refine ⟨fun t => ?_, by simp; omega, rfl⟩
  rcases Nat.lt_or_ge t args.length with h | h
  · have := hr t h
    have h2 : t < cargs.size := by omega
    have e1 : entry args t = args.getD t .unk := by simp [entry, List.getD, h]
    have e2 : (cargs ++ Array.replicate (n - cargs.size) undef).getD t undef = cargs.getD t undef := by
      simp only [Array.getD_eq_getD_getElem?, Array.getElem?_append_left h2]
    rw [e1]
    show VRel φ μ _ ((cargs ++ Array.replicate (n - cargs.size) undef).getD t undef)
    rw [e2]; exact this
  · have e1 : entry args t = undefA := by simp [entry, List.getD, List.getElem?_eq_none h]
    have e2 : (cargs ++ Array.replicate (n - cargs.size) undef).getD t undef = undef := by
      simp only [Array.getD_eq_getD_getElem?]
      rw [Array.getElem?_append_right (by omega)]
      rw [Array.getElem?_replicate]
      split <;> rfl
    rw [e1]
    show VRel φ μ _ ((cargs ++ Array.replicate (n - cargs.size) undef).getD t undef)
    rw [e2]; exact undef_rel φ μ

theorem okCode_region {N id : Nat} {ops : Array Oper} {draw : Bool} (h : okCode N (.region id ops draw) = true) (i : Nat) (o : Oper) (d : Nat) (ho : ops[i]? = some o) (hd : o.dst = some d) : d < N := by
  have := Array.all_eq_true_iff_forall_mem.1 h o (Array.mem_of_getElem? ho)
  simpa [hd] using this

def CodeOk (P : Program) (M : Nat → Nat) (n : Nat) : Prop := ∀ c E st x E' st', runC P M n c E st = some (x, E', st') →
  ∀ N B φ μ a w, okCode N c = true → EnvRel N φ μ E a → Sim B φ μ st w → c.wp P (PostX B φ μ N x E' st') a w

def LoopOk (P : Program) (M : Nat → Nat) (n : Nat) : Prop := ∀ c E st x E' st', runC P M n (.loop c) E st = some (x, E', st') →
  ∀ N B φ μ a w, okCode N c = true → EnvRel N φ μ E a → Sim B φ μ st w → Code.rounds P c (PostX B φ μ N x E' st') n a w

theorem PostX.then_of_ne {B : Base} {φ : Phi} {μ : Mu} {N : Nat} {x : AX} {E' : Env} {st' : Store} (hx : x ≠ .normal) {next : Act → World → Prop} {e : Exit} {a : Act} {w : World} (h : PostX B φ μ N x E' st' e a w) :
    Exit.then next (PostX B φ μ N x E' st') e a w := by
  have he := h.1
  cases x with
  | normal => exact absurd rfl hx
  | exit i => simp only [exitOf] at he; subst he; exact h
  | goto l => simp only [exitOf] at he; subst he; exact h
  | ret => simp only [exitOf] at he; subst he; exact h

theorem call_pure {n : Nat} : CallPure M (callN P M n) := by
  refine ⟨fun f args hf hp st v st' h => ?_, fun f args st hf v st' h => ?_⟩
  · cases n with
    | zero => simp [callN] at h
    | succ n =>
      simp only [callN] at h ⊢
      split at h <;> try (cases h; done)
      rename_i fn hfn
      split at h <;> try (cases h; done)
      rename_i hname
      split at h <;> try (cases h; done)
      rename_i c hc
      split at h <;> try (cases h; done)
      rename_i hok
      have hip : isPure (M f) args = true := by
        unfold isPure
        split
        · rename_i h0; exact absurd h0 hf
        · rfl
        · exact hp
      simp only [hip, if_true, Option.bind_eq_some_iff] at h
      obtain ⟨⟨a, s1⟩, h1, h⟩ := h
      obtain ⟨rfl, g⟩ := mapS_pure eraseFuel args hp _ _ _ h1
      simp only at h
      split at h <;> try (cases h; done)
      rename_i x E s2 hrun
      split at h <;> try (cases h; done)
      rename_i hx
      simp only [Option.bind_eq_some_iff, Option.map_eq_some_iff, Prod.mk.injEq] at h
      obtain ⟨r, hr, ⟨r', s3⟩, he, rfl, rfl⟩ := h
      refine ⟨rfl, fun st2 => ?_⟩
      simp only [hfn, hname, hc, hok, hip, Bool.false_eq_true, if_false, if_true, g st2, Option.bind_some, hrun, hx, hr, he, Option.map_some]
  · cases n with
    | zero => simp [callN] at h
    | succ n =>
      simp only [callN] at h ⊢
      split at h <;> try (cases h; done)
      rename_i fn hfn
      split at h <;> try (cases h; done)
      rename_i hname
      split at h <;> try (cases h; done)
      rename_i c hc
      split at h <;> try (cases h; done)
      rename_i hok
      have hip : isPure (M f) args = true := by rw [hf]; rfl
      simp only [hip, if_true, Option.bind_eq_some_iff] at h
      obtain ⟨⟨a, s1⟩, h1, h⟩ := h
      obtain ⟨ups, k1, e1, g⟩ := touchL_loc h1
      simp only at h
      split at h <;> try (cases h; done)
      rename_i x E s2 hrun
      split at h <;> try (cases h; done)
      rename_i hx
      simp only [Option.bind_eq_some_iff, Option.map_eq_some_iff, Prod.mk.injEq] at h
      obtain ⟨r, hr, ⟨r', s3⟩, he, rfl, rfl⟩ := h
      refine ⟨ups, k1, e1, fun st2 hst => ?_⟩
      simp only [hfn, hname, hc, hok, hip, Bool.false_eq_true, if_false, if_true, g st2 (fun b hb => hst b (.inl hb)), Option.bind_some, hrun, hx, hr, he, Option.map_some]

theorem all_sound (hm : P.follows .mixedOrders = true) : ∀ n, CallOk P (callN P M n) ∧ CodeOk P M n ∧ LoopOk P M n
  | 0 => ⟨fun f args st r st' h => by simp [callN] at h, fun c E st x E' st' h => by simp [runC] at h, fun c E st x E' st' h => by simp [runC] at h⟩
  | n + 1 => by
    obtain ⟨hcall, hcode, hloop⟩ := all_sound hm n
    have loopOk : LoopOk P M (n + 1) := by
      intro c E st x E' st' h N B φ μ a w hok he hs
      simp only [runC] at h
      rw [rounds_succ]
      split at h
      · rename_i E1 st1 h1
        refine wp_mono (hcode c E st _ E1 st1 h1 N B φ μ a w hok he hs) fun e a1 w1 hp => ?_
        obtain ⟨rfl, φ1, μ1, he1, hs1, hx1⟩ := hp
        show Code.rounds P c _ n a1 w1
        exact rounds_mono (fun e a w hp => PostX.trans hx1 hp) n a1 w1 (hloop c E1 st1 x E' st' h N B φ1 μ1 a1 w1 hok he1 hs1)
      · rename_i hne
        have hxn : x ≠ .normal := fun hx => by subst hx; exact hne _ _ h
        exact wp_mono (hcode c E st x E' st' h N B φ μ a w hok he hs) fun e a1 w1 hp => hp.then_of_ne hxn
    refine ⟨?_, ?_, loopOk⟩
    · -- calls
      intro f args st r st' h
      simp only [callN] at h
      split at h <;> try (cases h; done)
      rename_i fn hfn
      split at h <;> try (cases h; done)
      rename_i hname
      split at h <;> try (cases h; done)
      rename_i c hc
      split at h <;> try (cases h; done)
      rename_i hok
      have hok' : okCode fn.ntmps c = true := by simpa using hok
      refine ⟨⟨fn, hfn, by simpa using hname, by simp [hc]⟩, fun B φ μ w cargs hs hsz hr => ?_⟩
      have body : ∀ (B : Base) (φ : Phi) (μ : Mu) (args : List AV) (st : Store) (x : AX) (E : Env) (s2 : Store) (r0 : AV), runC P M n c (entry args) st = some (x, E, s2) → (x = .normal ∨ x = .ret) → resA P fn E s2 = some r0 → Sim B φ μ st w → cargs.size = args.length →
          (∀ i, i < args.length → VRel φ μ (args.getD i .unk) (cargs.getD i undef)) → Calls P f cargs w fun e w' => ∃ cv φ' μ', e = .returned cv ∧ VRel φ' μ' r0 cv ∧ Sim B φ' μ' s2 w' ∧ Ext φ μ φ' μ' := fun B φ μ args st x E s2 r0 hrun hx hres hs hsz hr => by
        refine calls_of_wp hfn hc (wp_mono (hcode c (entry args) st x E s2 hrun fn.ntmps B φ μ _ w hok' (entry_rel hsz hr) hs) fun e a1 w1 hp => ?_)
        obtain ⟨rfl, φ1, μ1, he1, hs1, hx1⟩ := hp
        obtain ⟨v, hv, hvr⟩ := resA_sound hres he1 hs1
        have : a1.defers = [] ∧ ∃ v, (results fn a1.tmps).run P w1 = .ok v w1 ∧ ∃ cv φ' μ', Ending.returned v = .returned cv ∧ VRel φ' μ' r0 cv ∧ Sim B φ' μ' s2 w1 ∧ Ext φ μ φ' μ' :=
          ⟨he1.defers, v, hv, v, φ1, μ1, rfl, hvr, hs1, hx1⟩
        rcases hx with rfl | rfl <;> exact this
      split at h
      · simp only [Option.bind_eq_some_iff] at h
        obtain ⟨⟨a, s1⟩, h1, h⟩ := h
        simp only at h
        split at h <;> try (cases h; done)
        rename_i x E s2 hrun
        split at h <;> try (cases h; done)
        rename_i hx
        simp only [Option.bind_eq_some_iff, Option.map_eq_some_iff, Prod.mk.injEq] at h
        obtain ⟨r0, hr0, ⟨r', s3⟩, he, rfl, rfl⟩ := h
        obtain ⟨μ1, hs1, hx1, hl1, hp1⟩ := mapS_sound (B := B) (φ := φ) (w := w) (f := erase eraseFuel) (Rin := fun μ v k => VRel φ μ v (cargs.getD k undef)) (Rout := fun μ _ v' k => PRel μ v' (cargs.getD k undef))
          (fun _ _ _ _ he h => h.mono he) (fun _ _ _ _ _ he h => h.mono he.mu) (fun v st v' st' μ k h hv hs => (erase_sound eraseFuel v st v' st' μ h hs).1 _ hv) args st a s1 μ 0 h1 (by simpa using hr) hs
        refine (body ⟨w, fun b => b < w.heap.size, μ1, fun _ => False, fun _ => none⟩ (fun _ => none) μ1 a [] x E s2 r0 hrun hx hr0 hs1.into (by omega) (fun i hi => .pure (by have := hp1 i (by omega); simpa using this))).mono fun e w' hp => ?_
        obtain ⟨cv, φ2, μ2, rfl, hv, hs2, hx2⟩ := hp
        obtain ⟨μ3, hs3, hx3, hp3⟩ := (erase_sound eraseFuel r0 s2 r' s3 μ2 he hs2).1 cv hv
        refine ⟨cv, φ, μ3, rfl, .pure hp3, hs1.back rfl hs3 (fun b o v h => hx3.mu _ _ _ (hx2.mu _ _ _ h)), ⟨fun _ _ h => h, fun b o v h => hx3.mu _ _ _ (hx2.mu _ _ _ (hx1.mu _ _ _ h))⟩⟩
      · split at h <;> try (cases h; done)
        rename_i x E s2 hrun
        split at h <;> try (cases h; done)
        rename_i hx
        simp only [Option.map_eq_some_iff, Prod.mk.injEq] at h
        obtain ⟨r0, hr0, rfl, rfl⟩ := h
        exact body B φ μ args st x E s2 r0 hrun hx hr0 hs hsz hr
    · -- code
      intro c E st x E' st' h N B φ μ a w hok he hs
      cases c with
      | skip =>
        simp only [runC, Option.some.injEq, Prod.mk.injEq] at h
        obtain ⟨rfl, rfl, rfl⟩ := h
        exact wp_skip ⟨rfl, φ, μ, he, hs, Ext.refl _ _⟩
      | label l =>
        simp only [runC, Option.some.injEq, Prod.mk.injEq] at h
        obtain ⟨rfl, rfl, rfl⟩ := h
        exact wp_label ⟨rfl, φ, μ, he, hs, Ext.refl _ _⟩
      | exit id =>
        simp only [runC, Option.some.injEq, Prod.mk.injEq] at h
        obtain ⟨rfl, rfl, rfl⟩ := h
        exact wp_exit ⟨rfl, φ, μ, he, hs, Ext.refl _ _⟩
      | ret =>
        simp only [runC, Option.some.injEq, Prod.mk.injEq] at h
        obtain ⟨rfl, rfl, rfl⟩ := h
        exact wp_ret ⟨rfl, φ, μ, he, hs, Ext.refl _ _⟩
      | seq p q =>
        simp only [okCode, Bool.and_eq_true] at hok
        simp only [runC] at h
        refine wp_seq ?_
        split at h
        · rename_i E1 st1 h1
          refine wp_mono (hcode p E st _ E1 st1 h1 N B φ μ a w hok.1 he hs) fun e a1 w1 hp => ?_
          obtain ⟨rfl, φ1, μ1, he1, hs1, hx1⟩ := hp
          exact wp_mono (hcode q E1 st1 x E' st' h N B φ1 μ1 a1 w1 hok.2 he1 hs1) fun e a2 w2 hp => PostX.trans hx1 hp
        · rename_i hne
          have hxn : x ≠ .normal := fun hx => by subst hx; exact hne _ _ h
          exact wp_mono (hcode p E st x E' st' h N B φ μ a w hok.1 he hs) fun e a1 w1 hp => hp.then_of_ne hxn
      | cond q p r =>
        simp only [okCode, Bool.and_eq_true] at hok
        simp only [runC] at h
        have hq := he.opd q
        split at h <;> try (cases h; done)
        · rename_i hb
          rw [hb] at hq
          exact wp_cond_true hq.bool_inv (hcode p E st x E' st' h N B φ μ a w hok.1 he hs)
        · rename_i hb
          rw [hb] at hq
          exact wp_cond_false hq.bool_inv (hcode r E st x E' st' h N B φ μ a w hok.2 he hs)
      | block id p =>
        simp only [okCode] at hok
        simp only [runC] at h
        refine wp_block ?_
        split at h
        · rename_i j E1 st1 h1
          refine wp_mono (hcode p E st _ E1 st1 h1 N B φ μ a w hok he hs) fun e a1 w1 hp => ?_
          obtain ⟨rfl, hp⟩ := hp
          simp only [exitOf, Exit.inBlock]
          split at h
          · rename_i hj
            simp only [Option.some.injEq, Prod.mk.injEq] at h
            obtain ⟨rfl, rfl, rfl⟩ := h
            rw [if_pos hj]
            exact ⟨rfl, hp⟩
          · rename_i hj
            simp only [Option.some.injEq, Prod.mk.injEq] at h
            obtain ⟨rfl, rfl, rfl⟩ := h
            rw [if_neg hj]
            exact ⟨rfl, hp⟩
        · rename_i hne
          refine wp_mono (hcode p E st x E' st' h N B φ μ a w hok he hs) fun e a1 w1 hp => ?_
          have he := hp.1
          cases x with
          | exit i => exact absurd h (hne _ _ _)
          | normal => simp only [exitOf] at he; subst he; exact hp
          | goto l => simp only [exitOf] at he; subst he; exact hp
          | ret => simp only [exitOf] at he; subst he; exact hp
      | loop p =>
        simp only [okCode] at hok
        exact wp_loop_rounds (n + 1) (loopOk p E st x E' st' h N B φ μ a w hok he hs)
      | region id ops draw =>
        simp only [runC, Option.map_eq_some_iff, Prod.mk.injEq] at h
        obtain ⟨⟨E1, st1⟩, hrun, rfl, rfl, rfl⟩ := h
        have hN := okCode_region hok
        cases draw with
        | false =>
          simp only [runReg, Bool.false_eq_true, if_false] at hrun
          exact wp_region (runL_sound hcall hN (List.range ops.size) E st a w φ μ hrun he hs fun a' w' φ' μ' g1 g2 g3 => ⟨rfl, φ', μ', g1, g2, g3⟩)
        | true =>
          simp only [runReg, if_true] at hrun
          split at hrun <;> try (cases hrun; done)
          rename_i l hl
          split at hrun <;> try (cases hrun; done)
          rename_i hchk
          unfold chkOf at hl
          split at hl <;> try (cases hl; done)
          have hext := hs.drew.extend (rankA P ops ops.size)
          generalize hst : st ++ List.replicate (rankA P ops ops.size) Blk.fresh = st0 at hrun hchk hext
          rw [List.range_eq_range'] at hrun hchk
          have hcl : Closed ops (Array.replicate ops.size false) := fun k o _ hk => by
            exfalso
            rcases Nat.lt_or_ge k ops.size with h' | h'
            · simp [h'] at hk
            · simp [Array.getElem?_eq_none, h'] at hk
          have hchk' : ∃ K, chkOk (tabL P M K (some st.length) (callN P M n) ops (List.range' 0 ops.size) (E, st0)) l = true := by
            simp only [Bool.or_eq_true] at hchk
            rcases hchk with h1 | h1
            · exact ⟨_, h1⟩
            · exact ⟨_, h1⟩
          obtain ⟨K, hchk⟩ := hchk'
          have := anyA_lex (P := P) (M := M) (K := K) call_pure (R := (E1, st1)) ops.size 0 (Array.replicate ops.size false) (E, st0) l (by omega) hcl hl hchk (fun m hm => by rw [Nat.zero_add]) hrun
          exact wp_region_any hm (anyA_sound hcall hN (R := (E1, st1)) ops.size (Array.replicate ops.size false) E st0 a _ φ μ this he hext fun a' w' φ' μ' g1 g2 g3 => ⟨rfl, φ', μ', g1, g2, g3⟩)
      | rangeFunc => simp [runC] at h
      | scope => simp [runC] at h
      | goto => simp [runC] at h
      | refuse => simp [runC] at h

end Go.Proofs.Ago
