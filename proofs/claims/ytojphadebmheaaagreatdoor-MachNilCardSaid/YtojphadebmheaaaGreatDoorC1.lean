/- Compact code: layouts resolved, temporaries by their places in a short list; it answers what the abstract run answers. -/
import Derived.Test.YtojphadebmheaaaGreatDoorB19
namespace Go.Proofs.Ago
open Go

inductive RArg where
  | v (p : Nat)
  | c (a : AV)
  deriving Inhabited

inductive RDst where
  | none
  | set (p : Nat)
  | push
  deriving Inhabited

inductive RKind where
  | p (r : ROp)
  | call (f : Nat) (m : Nat)
  | clos
  | fail
  deriving Inhabited

structure RO where
  k : RKind
  a : List RArg
  d : RDst
  g : Option (Nat × Bool)
  al : Bool
  h : List Nat
  deriving Inhabited

inductive RC where
  | skip
  | reg (q : Option (List (Nat × Nat))) (ops : List RO) (drop slots : Nat)
  | seq (a b : RC)
  | cond (c : RArg) (a b : RC)
  | block (id : Nat) (c : RC)
  | loop (c : RC)
  | exit (id : Nat)
  | ret
  | fail
  deriving Inhabited

inductive RRes where
  | v (p : Nat)
  | cell (p : Nat) (l : Option Nat)
  deriving Inhabited

structure RF where
  mode : Nat
  np : Nat
  nloc : Nat
  code : RC
  res : List RRes
  deriving Inhabited

def argV (env : List AV) : RArg → AV
  | .v p => env.getD p .unk
  | .c a => a

def putR (d : RDst) (v : AV) (env : List AV) : List AV :=
  match d with
  | .none => env
  | .set p => env.set p v
  | .push => v :: env

def wantedR (env : List AV) : Option (Nat × Bool) → Option Bool
  | none => some true
  | some (p, want) => match env.getD p .unk with
    | .bool b => some (b == want)
    | .unk => none
    | _ => some false

def execR (sl : Option Nat) (hid : List Nat) (call : CallF) (k : RKind) (vs : List AV) (st : Store) : Option (AV × Store) :=
  match k with
  | .p r => if sl.isSome && !okQ r vs then none else rop sl r vs st
  | .call f m => callH (if isPure m vs then [] else hid) call f vs st
  | .clos => match vs with
    | .fn (.func f) first cap :: rest => callH hid call f (first ++ rest ++ cap) st
    | _ => none
  | .fail => none

/-- The places that are hidden from a call, by their ranks. -/
def hidR (base : Option Nat) (l : List Nat) : List Nat := match base with
  | none => []
  | some b => l.map (b + ·)

def nextB (b : Option Nat) (al : Bool) : Option Nat := if al then b.map (· + 1) else b

def fpR (b : Option Nat) (hid : List Nat) (k : RKind) (vs : List AV) (st : Store) : FP :=
  match k with
  | .p r => .inl ((fpOf r vs).1, (if isAlloc r then b.toList else []) ++ (fpOf r vs).2)
  | .call _ m => match m with
    | 0 => .inr hid
    | 1 => .inl (touchL vs st, touchL vs st)
    | _ => if AV.pure.pureL vs then fp0 else .inr hid
  | _ => .inr hid

/-- What is noted of an operation: where it looks and writes; what a load looks at; a call's store, ahead of it and behind it. -/
abbrev RawE := FP × Option (Sum LdI (List Nat × Store × Store))

def toZ (K : List Nat) (r : RawE) : ZP := (r.1, match r.2 with
  | some (.inl l) => some (.inl l)
  | some (.inr (hid, s, s2)) => some (.inr (recOf K hid s s2))
  | none => none)

def ldR (k : RKind) (vs : List AV) : Option LdI :=
  match k with
  | .p (.load n) => match vs with
    | [.ptr b i off] => some (b, i, off, n)
    | _ => none
  | _ => none

def rawR (b : Option Nat) (hid : List Nat) (k : RKind) (vs : List AV) (st st2 : Store) : RawE :=
  match fpR b hid k vs st with
  | .inl x => (.inl x, (ldR k vs).map .inl)
  | .inr h => (.inr h, some (.inr (h, st, st2)))

def consIf (tr : Bool) (x : RawE) (l : List RawE) : List RawE := if tr then x :: l else []

def regR (tr : Bool) (call : CallF) (base : Option Nat) : Option Nat → List RO → List AV → Store → Option (List AV × Store × List RawE)
  | _, [], env, st => some (env, st, [])
  | b, o :: ops, env, st =>
    match wantedR env o.g with
    | some true => (execR b (hidR base o.h) call o.k (o.a.map (argV env)) st).bind fun r => (regR tr call base (nextB b o.al) ops (putR o.d r.1 env) r.2).map fun s => (s.1, s.2.1, consIf tr (rawR b (hidR base o.h) o.k (o.a.map (argV env)) st r.2) s.2.2)
    | some false => (regR tr call base (nextB b o.al) ops (putR o.d undefA env) st).map fun s => (s.1, s.2.1, consIf tr (fp0, none) s.2.2)
    | none => none

def room (st : Store) (n : Nat) : Store := match n with
  | 0 => st
  | n => st ++ List.replicate n .fresh

theorem room_eq (st : Store) (n : Nat) : room st n = st ++ List.replicate n .fresh := by
  cases n with
  | zero => simp [room]
  | succ n => rfl

def regionR (call : CallF) (q : Option (List (Nat × Nat))) (ops : List RO) (slots : Nat) (env : List AV) (st : Store) : Option (List AV × Store) :=
  match q with
  | none => (regR false call none none ops env st).map fun s => (s.1, s.2.1)
  | some [] => (regR false call (some st.length) (some st.length) ops env (room st slots)).map fun s => (s.1, s.2.1)
  | some l => (regR true call (some st.length) (some st.length) ops env (room st slots)).bind fun s => if chkOk (s.2.2.map (toZ [])) l || chkOk (s.2.2.map (toZ (ksOf (s.2.2.map (toZ []))))) l then some (s.1, s.2.1) else none

def resR (env : List AV) (st : Store) : RRes → Option AV
  | .v p => some (env.getD p .unk)
  | .cell p l => (rop none (.load l) [env.getD p .unk] st).map (·.1)

mutual
def runR (T : Nat → Option RF) : Nat → RC → List AV → Store → Option (AX × List AV × Store)
  | 0, _, _, _ => none
  | n + 1, c, env, st =>
    match c with
    | .skip => some (.normal, env, st)
    | .reg q ops k s => (regionR (callR T n) q ops s env st).map fun S => (.normal, S.1.drop k, S.2)
    | .seq a b => match runR T n a env st with
      | some (.normal, env, st) => runR T n b env st
      | r => r
    | .cond c a b => match argV env c with
      | .bool true => runR T n a env st
      | .bool false => runR T n b env st
      | _ => none
    | .block id c => match runR T n c env st with
      | some (.exit j, env, st) => if j = id then some (.normal, env, st) else some (.exit j, env, st)
      | r => r
    | .loop c => match runR T n c env st with
      | some (.normal, env, st) => runR T n (.loop c) env st
      | r => r
    | .exit id => some (.exit id, env, st)
    | .ret => some (.ret, env, st)
    | .fail => none
def callR (T : Nat → Option RF) : Nat → Nat → List AV → Store → Option (AV × Store)
  | 0, _, _, _ => none
  | n + 1, f, args, st =>
    match T f with
    | none => none
    | some rf =>
      if args.length = rf.np then
        if isPure rf.mode args then
          (mapS (erase eraseFuel) args st).bind fun a =>
          match runR T n rf.code (a.1 ++ List.replicate rf.nloc undefA) [] with
          | some (x, env, st') => if x = .normal ∨ x = .ret then
              (rf.res.mapM (resR env st')).bind fun r => (erase eraseFuel (tupOf r) st').map fun r => (r.1, a.2) else none
          | none => none
        else
          match runR T n rf.code (args ++ List.replicate rf.nloc undefA) st with
          | some (x, env, st') => if x = .normal ∨ x = .ret then (rf.res.mapM (resR env st')).map fun r => (tupOf r, st') else none
          | none => none
      else none
end

/-! ### Making it -/

def posOf (t : Nat) : List Nat → Option Nat
  | [] => none
  | x :: l => if x = t then some 0 else (posOf t l).map (· + 1)

def compArg (lay : List Nat) : Operand → Option RArg
  | .tmp t => (posOf t lay).map .v
  | .const v => some (.c (absV v))
  | .global _ => some (.c .unk)
  | .func f => some (.c (.fn (.func f) [] []))

def compKind (M : Nat → Nat) : RK → RKind
  | .prim r => .p r
  | .call f => .call f (M f)
  | .clos => .clos

/-- The ranks of the places that are hidden from an operation. -/
def hidRanks (P : Program) (ops : Array Oper) (m : List Nat) (i : Nat) : List Nat :=
  (List.range ops.size).filterMap fun j => match ops[j]? with
    | some o => if allocLike P o && !(m.getD i 0).testBit j && j != i then some (rankA P ops j) else none
    | none => none

def ranksOf (P : Program) (ops : Array Oper) (mk : Option (List Nat)) (i : Nat) (k : RKind) : List Nat :=
  match mk with
  | none => []
  | some m => match k with
    | .call _ 1 => []
    | .call .. | .clos => hidRanks P ops m i
    | _ => []

def compOp (P : Program) (M : Nat → Nat) (ops : Array Oper) (mk : Option (List Nat)) (i : Nat) (lay : List Nat) (o : Oper) : Option (RO × List Nat) :=
  (match resOp P o.op with
    | some kx => (kx.2.mapM (compArg lay)).map fun args => (compKind M kx.1, args)
    | none => some (.fail, [])).bind fun ka =>
  (match o.guard with
    | none => some none
    | some (j, want) => ((ops[j]?).bind (·.dst)).bind fun t => (posOf t lay).map fun p => some (p, want)).bind fun g =>
  match o.dst with
  | none => some (⟨ka.1, ka.2, .none, g, allocLike P o, ranksOf P ops mk i ka.1⟩, lay)
  | some t => match posOf t lay with
    | some p => some (⟨ka.1, ka.2, .set p, g, allocLike P o, ranksOf P ops mk i ka.1⟩, lay)
    | none => some (⟨ka.1, ka.2, .push, g, allocLike P o, ranksOf P ops mk i ka.1⟩, t :: lay)

def compOps (P : Program) (M : Nat → Nat) (ops : Array Oper) (mk : Option (List Nat)) : Nat → List Nat → List Oper → Option (List RO × List Nat)
  | _, lay, [] => some ([], lay)
  | i, lay, o :: l => (compOp P M ops mk i lay o).bind fun x => (compOps P M ops mk (i + 1) x.2 l).map fun y => (x.1 :: y.1, y.2)

def compC (P : Program) (M : Nat → Nat) (lay : List Nat) : Code → Option RC
  | .skip | .label _ => some .skip
  | .region _ ops draw => match (if draw then (chkOf P M ops).map some else some none) with
    | none => some .fail
    | some q => (compOps P M ops (if draw then some (masks ops.toList []) else none) 0 lay ops.toList).map fun x => .reg q x.1 (x.2.length - lay.length) (rankA P ops ops.size)
  | .seq a b => (compC P M lay a).bind fun x => (compC P M lay b).map fun y => .seq x y
  | .cond c a b => (compArg lay c).bind fun k => (compC P M lay a).bind fun x => (compC P M lay b).map fun y => .cond k x y
  | .block id c => (compC P M lay c).map (.block id)
  | .loop c => (compC P M lay c).map .loop
  | .exit id => some (.exit id)
  | .ret => some .ret
  | _ => some .fail

def compRes (P : Program) (lay : List Nat) : ResultVar → Option RRes
  | .tmp t => (posOf t lay).map .v
  | .cell a t => (posOf a lay).bind fun p => (layOf P t).map (.cell p)

def nodupB : List Nat → Bool
  | [] => true
  | x :: l => !l.contains x && nodupB l

def compF (P : Program) (M : Nat → Nat) (np : Nat) (locs : List Nat) (f : Nat) : Option RF :=
  match P.funcs[f]? with
  | none => none
  | some fn =>
    if fn.name == "runtime.NumGoroutine" then none else
    match fn.body with
    | none => none
    | some c =>
      if !okCode fn.ntmps c then none else
      if !(nodupB (List.range np ++ locs) && locs.all (fun t => np ≤ t)) then none else
      (compC P M (List.range np ++ locs) c).bind fun rc => (fn.results.toList.mapM (compRes P (List.range np ++ locs))).map fun res => ⟨M f, np, locs.length, rc, res⟩

/-! ### It answers the same -/

structure LayRel (lay : List Nat) (E : Env) (env : List AV) : Prop where
  len : lay.length = env.length
  get : ∀ i, i < lay.length → E (lay.getD i 0) = env.getD i .unk
  nodup : lay.Nodup

theorem posOf_spec {t : Nat} : ∀ {lay : List Nat} {p : Nat}, posOf t lay = some p → p < lay.length ∧ lay.getD p 0 = t
  | [], p, h => by simp [posOf] at h
  | x :: l, p, h => by
    simp only [posOf] at h
    split at h
    · rename_i hx
      injection h with h; subst h; subst hx
      exact ⟨by simp, rfl⟩
    · simp only [Option.map_eq_some_iff] at h
      obtain ⟨q, hq, rfl⟩ := h
      obtain ⟨h1, h2⟩ := posOf_spec hq
      exact ⟨by simpa using h1, by simpa using h2⟩

theorem posOf_none {t : Nat} : ∀ {lay : List Nat}, posOf t lay = none → t ∉ lay
  | [], _ => by simp
  | x :: l, h => by
    simp only [posOf] at h
    split at h
    · cases h
    · rename_i hx
      simp only [Option.map_eq_none_iff] at h
      have := posOf_none h
      simp only [List.mem_cons, not_or]
      exact ⟨fun e => hx e.symm, this⟩

theorem LayRel.pos {lay : List Nat} {E : Env} {env : List AV} (h : LayRel lay E env) {t p : Nat} (hp : posOf t lay = some p) : E t = env.getD p .unk := by
  obtain ⟨h1, h2⟩ := posOf_spec hp
  rw [← h2]; exact h.get p h1

theorem LayRel.arg {lay : List Nat} {E : Env} {env : List AV} (h : LayRel lay E env) {x : Operand} {a : RArg} (hc : compArg lay x = some a) : aval E x = argV env a := by
  cases x with
  | tmp t =>
    simp only [compArg, Option.map_eq_some_iff] at hc
    obtain ⟨p, hp, rfl⟩ := hc
    exact h.pos hp
  | const v => simp only [compArg, Option.some.injEq] at hc; subst hc; rfl
  | global g => simp only [compArg, Option.some.injEq] at hc; subst hc; rfl
  | func f => simp only [compArg, Option.some.injEq] at hc; subst hc; rfl

theorem LayRel.args {lay : List Nat} {E : Env} {env : List AV} (h : LayRel lay E env) : ∀ {xs : List Operand} {as : List RArg}, xs.mapM (compArg lay) = some as → xs.map (aval E) = as.map (argV env)
  | [], as, hc => by simp at hc; subst hc; rfl
  | x :: xs, as, hc => by
    simp only [List.mapM_cons, Option.bind_eq_bind, Option.bind_eq_some_iff, Option.pure_def, Option.some.injEq] at hc
    obtain ⟨a, ha, as', has, rfl⟩ := hc
    simp only [List.map_cons, h.arg ha, h.args has]

theorem LayRel.put_set {lay : List Nat} {E : Env} {env : List AV} (h : LayRel lay E env) {t p : Nat} (hp : posOf t lay = some p) (v : AV) : LayRel lay (E.put (some t) v) (env.set p v) := by
  obtain ⟨h1, h2⟩ := posOf_spec hp
  refine ⟨by simp [h.len], fun i hi => ?_, h.nodup⟩
  have hlen := h.len
  by_cases hip : i = p
  · subst hip
    have : i < env.length := by omega
    have h3 : lay[i]?.getD 0 = t := by simpa [List.getD] using h2
    simp [Env.put, List.getD, this, h3]
  · have hne : lay.getD i 0 ≠ t := fun he => hip (by
      rw [← h2] at he
      have a1 : lay[i]'hi = lay[p]'h1 := by simpa [List.getD, hi, h1] using he
      exact (List.getElem_inj h.nodup).1 a1)
    have := h.get i hi
    simp only [Env.put, if_neg hne, this]
    simp [List.getD, List.getElem?_set_ne (Ne.symm hip)]

theorem LayRel.put_push {lay : List Nat} {E : Env} {env : List AV} (h : LayRel lay E env) {t : Nat} (hp : posOf t lay = none) (v : AV) : LayRel (t :: lay) (E.put (some t) v) (v :: env) := by
  have hn := posOf_none hp
  refine ⟨by simp [h.len], fun i hi => ?_, List.nodup_cons.2 ⟨hn, h.nodup⟩⟩
  cases i with
  | zero => simp [Env.put]
  | succ i =>
    have hi' : i < lay.length := by simpa using hi
    have hne : lay.getD i 0 ≠ t := fun he => hn (by rw [← he]; simp [List.getD, hi'])
    have := h.get i hi'
    have hne' : ¬ lay[i]?.getD 0 = t := by simpa [List.getD] using hne
    simpa [Env.put, hne'] using this

theorem compOps_drop {P : Program} {M : Nat → Nat} {ops : Array Oper} {mk : Option (List Nat)} : ∀ {l : List Oper} {i : Nat} {lay : List Nat} {y : List RO × List Nat}, compOps P M ops mk i lay l = some y → ∃ pre, y.2 = pre ++ lay
  | [], i, lay, y, h => by simp [compOps] at h; subst h; exact ⟨[], rfl⟩
  | o :: l, i, lay, y, h => by
    simp only [compOps, Option.bind_eq_some_iff, Option.map_eq_some_iff] at h
    obtain ⟨x, hx, z, hz, rfl⟩ := h
    obtain ⟨pre, hpre⟩ := compOps_drop hz
    simp only [compOp, Option.bind_eq_some_iff] at hx
    obtain ⟨ka, _, g, _, hx⟩ := hx
    split at hx
    · injection hx with hx; subst hx; exact ⟨pre, hpre⟩
    · split at hx
      · injection hx with hx; subst hx; exact ⟨pre, hpre⟩
      · rename_i t _ _ _
        injection hx with hx; subst hx; exact ⟨pre ++ [t], by rw [hpre]; simp⟩

section
variable {P : Program} {M : Nat → Nat}

theorem rank_succ {ops : Array Oper} {k : Nat} {o : Oper} (h : ops[k]? = some o) : rankA P ops (k + 1) = rankA P ops k + if allocLike P o then 1 else 0 := by
  unfold rankA
  have : ops.toList[k]? = some o := by simpa using h
  rw [List.take_add_one, this]
  simp only [Option.toList_some, List.filter_append, List.length_append]
  congr 1
  by_cases h : allocLike P o = true <;> simp [h]

theorem slot_succ {ops : Array Oper} {k : Nat} {o : Oper} (h : ops[k]? = some o) (base : Option Nat) : slotOf P ops base (k + 1) = nextB (slotOf P ops base k) (allocLike P o) := by
  cases base with
  | none => simp [slotOf, nextB]
  | some b =>
    simp only [slotOf, nextB, Option.map_some, rank_succ h]
    by_cases h : allocLike P o = true
    · simp [h, Nat.add_assoc]
    · simp [h]

theorem hidR_eq {ops : Array Oper} (b i : Nat) : hidR (some b) (hidRanks P ops (masks ops.toList []) i) = hidOf P ops (some b) i := by
  unfold hidR hidRanks hidOf
  dsimp only
  rw [List.map_filterMap]
  congr 1
  funext j
  cases ops[j]? with
  | none => rfl
  | some o => dsimp only; split <;> rfl

theorem callH_mono {hid : List Nat} {call call' : CallF} (hcall : ∀ f vs st r, call f vs st = some r → call' f vs st = some r) {f : Nat} {vs : List AV} {st : Store} {r : AV × Store} (h : callH hid call f vs st = some r) : callH hid call' f vs st = some r := by
  cases hid with
  | nil => exact hcall _ _ _ _ h
  | cons a l =>
    simp only [callH, Option.bind_eq_some_iff] at h ⊢
    obtain ⟨x, h1, h2⟩ := h
    exact ⟨x, hcall _ _ _ _ h1, h2⟩

theorem regR_sound {tr : Bool} {base : Option Nat} {mk : Option (List Nat)} {call call' : CallF} (hcall : ∀ f vs st r, call f vs st = some r → call' f vs st = some r) {ops : Array Oper} (hmk : base.isSome = true → mk = some (masks ops.toList [])) : ∀ (l : List Oper) (k : Nat) (lay : List Nat) (ros : List RO) (lay' : List Nat) (E : Env) (env : List AV) (st : Store) (env' : List AV) (st' : Store) (tab : List RawE),
    (∀ j, l[j]? = ops[k + j]?) → compOps P M ops mk k lay l = some (ros, lay') → LayRel lay E env → regR tr call base (slotOf P ops base k) ros env st = some (env', st', tab) →
      ∃ E', runL P M base call' ops (List.range' k l.length) (E, st) = some (E', st') ∧ LayRel lay' E' env' ∧ (tr = true → ∀ K, tabL P M K base call' ops (List.range' k l.length) (E, st) = tab.map (toZ K))
  | [], k, lay, ros, lay', E, env, st, env', st', tab, _, hc, hr, h => by
    simp only [compOps, Option.some.injEq, Prod.mk.injEq] at hc
    obtain ⟨rfl, rfl⟩ := hc
    simp only [regR, Option.some.injEq, Prod.mk.injEq] at h
    obtain ⟨rfl, rfl, rfl⟩ := h
    exact ⟨E, rfl, hr, fun _ _ => rfl⟩
  | o :: l, k, lay, ros, lay', E, env, st, env', st', tab, hl, hc, hr, h => by
    have h0 : ops[k]? = some o := by simpa using (hl 0).symm
    simp only [compOps, Option.bind_eq_some_iff, Option.map_eq_some_iff, Prod.mk.injEq] at hc
    obtain ⟨⟨ro, lay1⟩, hx, ⟨ros', lay2⟩, hz, rfl, rfl⟩ := hc
    simp only [compOp, Option.bind_eq_some_iff] at hx
    obtain ⟨ka, hka, g, hg, hx⟩ := hx
    have hro : ro.k = ka.1 ∧ ro.a = ka.2 ∧ ro.g = g ∧ ro.al = allocLike P o ∧ ro.h = ranksOf P ops mk k ka.1 ∧ (∀ v, LayRel lay1 (E.put o.dst v) (putR ro.d v env)) := by
      split at hx
      · rename_i hd
        injection hx with hx; injection hx with h1 h2; subst h1; subst h2
        rw [hd]
        exact ⟨rfl, rfl, rfl, rfl, rfl, fun v => hr⟩
      · rename_i t hd
        rw [hd]
        split at hx
        · rename_i p hp
          injection hx with hx; injection hx with h1 h2; subst h1; subst h2
          exact ⟨rfl, rfl, rfl, rfl, rfl, fun v => hr.put_set hp v⟩
        · rename_i hp
          injection hx with hx; injection hx with h1 h2; subst h1; subst h2
          exact ⟨rfl, rfl, rfl, rfl, rfl, fun v => hr.put_push hp v⟩
    obtain ⟨e1, e2, e3, e5, e8, e4⟩ := hro
    have hw : wantedA ops E o = wantedR env ro.g := by
      rw [e3]
      unfold wantedA
      cases hgd : o.guard with
      | none => simp only [hgd, Option.some.injEq] at hg; subst hg; rfl
      | some jw =>
        obtain ⟨j, want⟩ := jw
        simp only [hgd, Option.bind_eq_some_iff, Option.map_eq_some_iff] at hg
        obtain ⟨d, hd, p, hp, rfl⟩ := hg
        obtain ⟨oj, hoj, hdj⟩ := hd
        simp only [hoj, Option.bind_some, hdj, wantedR, hr.pos hp]
        rfl
    have hhid : ∀ kd, ka.1 = compKind M kd → (∀ r, kd ≠ .prim r) → (∀ f, kd = .call f → M f ≠ 1) → hidR base ro.h = hidOf P ops base k := fun kd hk h1 h2 => by
      cases base with
      | none => rfl
      | some b =>
        rw [e8, hmk rfl, hk]
        cases kd with
        | prim r => exact absurd rfl (h1 r)
        | clos => exact hidR_eq b k
        | call f =>
          have h3 := h2 f rfl
          have : ranksOf P ops (some (masks ops.toList [])) k (compKind M (.call f)) = hidRanks P ops (masks ops.toList []) k := by
            simp only [compKind]
            generalize M f = m at h3
            unfold ranksOf
            dsimp only
            split
            · rename_i h4; injection h4 with _ h4; exact absurd h4 h3
            · rfl
            · rename_i h4; cases h4
            · rename_i h4 _; exact absurd rfl (h4 _ _)
          rw [this]
          exact hidR_eq b k
    have hex : ∀ r, execR (slotOf P ops base k) (hidR base ro.h) call ro.k (ro.a.map (argV env)) st = some r → exec1 P M (slotOf P ops base k) (hidOf P ops base k) call' E st o = some r ∧
        ∃ kd xs, (ka.1 = compKind M kd) ∧ resOp P o.op = some (kd, xs) ∧ ro.k = compKind M kd ∧ xs.map (aval E) = ro.a.map (argV env) := fun r hr' => by
      cases hres : resOp P o.op with
      | none =>
        simp only [hres, Option.some.injEq] at hka
        subst hka
        simp only [e1, execR] at hr'
        cases hr'
      | some kx =>
      obtain ⟨kd, xs⟩ := kx
      simp only [hres, Option.map_eq_some_iff] at hka
      obtain ⟨args, hargs, rfl⟩ := hka
      have hmap := hr.args hargs
      refine ⟨?_, kd, xs, rfl, rfl, e1, by rw [e2]; exact hmap⟩
      unfold exec1
      rw [hres]
      simp only at e1 e2
      have hh := hhid kd rfl
      rw [e1, e2, ← hmap] at hr'
      cases kd with
      | prim r' => exact hr'
      | call f =>
        simp only [compKind, execR] at hr' ⊢
        by_cases hp : isPure (M f) (xs.map (aval E)) = true
        · rw [if_pos hp] at hr' ⊢
          exact callH_mono hcall hr'
        · rw [if_neg hp] at hr' ⊢
          rw [← hh (fun r h => by cases h) (fun g hg h1 => by injection hg with hg; subst hg; exact hp (by rw [h1]; rfl))]
          exact callH_mono hcall hr'
      | clos =>
        cases xs with
        | nil => simp [compKind, execR] at hr'
        | cons y ys =>
          simp only [compKind, execR, List.map_cons] at hr' ⊢
          split at hr' <;> try (cases hr'; done)
          rename_i f first cap rest heq
          simp only [List.cons.injEq] at heq
          obtain ⟨h1, rfl⟩ := heq
          rw [h1, ← hh (fun r h => by cases h) (fun g hg => by cases hg)]
          exact callH_mono hcall hr'
    have hl' : ∀ j, l[j]? = ops[k + 1 + j]? := fun j => by have := hl (j + 1); simpa [Nat.add_assoc, Nat.add_comm 1 j] using this
    simp only [regR, e5, ← slot_succ h0] at h
    simp only [List.length_cons, List.range'_succ, runL, tabL, stepA, h0, hw]
    split at h
    · rename_i hwt
      simp only [Option.bind_eq_some_iff, Option.map_eq_some_iff, Prod.mk.injEq] at h
      obtain ⟨⟨v, s1⟩, hv, ⟨env2, st2, tab2⟩, h, rfl, rfl, rfl⟩ := h
      obtain ⟨E', g1, g2, g3⟩ := regR_sound hcall hmk l (k + 1) lay1 ros' lay2 (E.put o.dst v) (putR ro.d v env) s1 env2 st2 tab2 hl' hz (e4 v) h
      refine ⟨E', ?_, g2, fun htr K => ?_⟩
      · simp only [hwt, (hex _ hv).1, Option.map_some, Option.bind_some, g1]
      · obtain ⟨hx1, kd, xs, hka1, hres, e6, e7⟩ := hex _ hv
        have hh := hhid kd hka1
        simp only [hwt, hx1, Option.map_some, g3 htr, htr, consIf, if_true, List.map_cons]
        congr 1
        have hS : fpS P M ops base k E st = fpR (slotOf P ops base k) (hidR base ro.h) ro.k (ro.a.map (argV env)) st := by
          unfold fpS
          simp only [h0, hw, hwt, hres, e6, ← e7]
          cases kd with
          | prim r => rfl
          | call f =>
            have hh2 : M f ≠ 1 → hidR base ro.h = hidOf P ops base k := fun h1 => hh (fun r h => by cases h) (fun g hg h2 => by injection hg with hg; subst hg; exact h1 h2)
            simp only [compKind, fpR]
            generalize M f = m at hh2
            match m with
            | 0 => simp only [hh2 (by decide)]
            | 1 => rfl
            | m + 2 => simp only [hh2 (by omega)]
          | clos => simp only [compKind, fpR]; rw [hh (fun r h => by cases h) (fun g hg => by cases hg)]
        have hL : ldInfo P ops k E = ldR ro.k (ro.a.map (argV env)) := by
          unfold ldInfo ldR
          simp only [h0, hw, hwt, hres, e6, ← e7]
          cases kd with
          | prim r => cases r <;> rfl
          | call f => rfl
          | clos => rfl
        unfold fpZ fpX rawR
        rw [hS, hL]
        cases hf : fpR (slotOf P ops base k) (hidR base ro.h) ro.k (ro.a.map (argV env)) st with
        | inl y =>
          simp only [toZ]
          cases ldR ro.k (ro.a.map (argV env)) <;> rfl
        | inr hd => simp only [toZ, afterA, h0, hx1]
    · rename_i hwt
      simp only [Option.map_eq_some_iff, Prod.mk.injEq] at h
      obtain ⟨⟨env2, st2, tab2⟩, h, rfl, rfl, rfl⟩ := h
      obtain ⟨E', g1, g2, g3⟩ := regR_sound hcall hmk l (k + 1) lay1 ros' lay2 (E.put o.dst undefA) (putR ro.d undefA env) st env2 st2 tab2 hl' hz (e4 undefA) h
      refine ⟨E', ?_, g2, fun htr K => ?_⟩
      · simp only [hwt, Option.bind_some, g1]
      · simp only [hwt, g3 htr, htr, consIf, if_true, List.map_cons]
        congr 1
        have h1 : fpS P M ops base k E st = fp0 := by unfold fpS; simp only [h0, hw, hwt]
        have h2 : ldInfo P ops k E = none := by unfold ldInfo; simp only [h0, hw, hwt]
        unfold fpZ fpX
        rw [h1, h2]
        rfl
    · cases h

theorem regionR_sound {call call' : CallF} (hcall : ∀ f vs st r, call f vs st = some r → call' f vs st = some r) {ops : Array Oper} {draw : Bool} {q : Option (List (Nat × Nat))} (hq : (if draw then (chkOf P M ops).map some else some none) = some q)
    {lay : List Nat} {ros : List RO} {lay' : List Nat} (hc : compOps P M ops (if draw then some (masks ops.toList []) else none) 0 lay ops.toList = some (ros, lay')) {E : Env} {env : List AV} (hr : LayRel lay E env) {st : Store} {env' : List AV} {st' : Store}
    (h : regionR call q ros (rankA P ops ops.size) env st = some (env', st')) : ∃ E', runReg P M draw call' ops E st = some (E', st') ∧ LayRel lay' E' env' := by
  have hlen : ops.toList.length = ops.size := by simp
  have h00 : rankA P ops 0 = 0 := rfl
  cases draw with
  | false =>
    simp only [Bool.false_eq_true, if_false, Option.some.injEq] at hq
    subst hq
    simp only [regionR, Option.map_eq_some_iff, Prod.mk.injEq] at h
    obtain ⟨⟨env1, st1, tab⟩, h, rfl, rfl⟩ := h
    obtain ⟨E', g1, g2, _⟩ := regR_sound (P := P) (M := M) (base := none) (call' := call') hcall (fun h => by cases h) ops.toList 0 lay ros lay' E env st _ _ tab (by simp) hc hr h
    refine ⟨E', ?_, g2⟩
    rw [hlen, ← List.range_eq_range'] at g1
    simp only [runReg, Bool.false_eq_true, if_false, g1]
  | true =>
    simp only [if_true, Option.map_eq_some_iff] at hq
    obtain ⟨l, hl, rfl⟩ := hq
    have main : ∀ tr tab, regR tr call (some st.length) (some st.length) ros env (room st (rankA P ops ops.size)) = some (env', st', tab) → (tr = true ∨ l = []) → (chkOk (tab.map (toZ [])) l || chkOk (tab.map (toZ (ksOf (tab.map (toZ []))))) l) = true ∨ l = [] →
        ∃ E', runReg P M true call' ops E st = some (E', st') ∧ LayRel lay' E' env' := fun tr tab h htr hchk => by
      rw [room_eq] at h
      have hs : slotOf P ops (some st.length) 0 = some st.length := by simp [slotOf, h00]
      have h : regR tr call (some st.length) (slotOf P ops (some st.length) 0) ros env (st ++ List.replicate (rankA P ops ops.size) .fresh) = some (env', st', tab) := by rw [hs]; exact h
      obtain ⟨E', g1, g2, g3⟩ := regR_sound (P := P) (M := M) (base := some st.length) (call' := call') hcall (fun _ => by simp) ops.toList 0 lay ros lay' E env _ _ _ tab (by simp) hc hr h
      refine ⟨E', ?_, g2⟩
      rw [hlen, ← List.range_eq_range'] at g1 g3
      simp only [runReg, if_true, hl]
      have : (chkOk (tabL P M [] (some st.length) call' ops (List.range ops.size) (E, st ++ List.replicate (rankA P ops ops.size) .fresh)) l ||
        chkOk (tabL P M (ksOf (tabL P M [] (some st.length) call' ops (List.range ops.size) (E, st ++ List.replicate (rankA P ops ops.size) .fresh))) (some st.length) call' ops (List.range ops.size) (E, st ++ List.replicate (rankA P ops ops.size) .fresh)) l) = true := by
        by_cases he : l = []
        · subst he; rfl
        · have g4 := g3 (htr.resolve_right he)
          simp only [g4]
          exact hchk.resolve_right he
      rw [if_pos this, g1]
    unfold regionR at h
    split at h
    · rename_i hn; cases hn
    · rename_i hn
      injection hn with hn
      simp only [Option.map_eq_some_iff, Prod.mk.injEq] at h
      obtain ⟨⟨env1, st1, tab⟩, h, rfl, rfl⟩ := h
      exact main false tab h (.inr hn) (.inr hn)
    · rename_i l' _ hn
      injection hn with hn; subst hn
      simp only [Option.bind_eq_some_iff] at h
      obtain ⟨⟨env1, st1, tab⟩, h, h2⟩ := h
      split at h2 <;> try (cases h2; done)
      rename_i hchk
      injection h2 with h2; injection h2 with h3 h4; subst h3; subst h4
      exact main true tab h (.inl rfl) (.inl hchk)

theorem LayRel.drop {lay lay' pre : List Nat} {E : Env} {env : List AV} (h : LayRel lay' E env) (hp : lay' = pre ++ lay) : LayRel lay E (env.drop (lay'.length - lay.length)) := by
  subst hp
  have hl := h.len
  simp at hl
  refine ⟨by simp; omega, fun i hi => ?_, (List.nodup_append.1 h.nodup).2.1⟩
  have := h.get (pre.length + i) (by simp; omega)
  rw [show (pre ++ lay).length - lay.length = pre.length from by simp]
  simp only [List.getD, List.getElem?_drop] at this ⊢
  rw [List.getElem?_append_right (by omega)] at this
  simpa using this

theorem resR_sound {lay : List Nat} {E : Env} {env : List AV} (h : LayRel lay E env) {st : Store} : ∀ {rs : List ResultVar} {qs : List RRes} {vs : List AV}, rs.mapM (compRes P lay) = some qs → qs.mapM (resR env st) = some vs → rs.mapM (resV P E st) = some vs
  | [], qs, vs, hc, hv => by simp at hc; subst hc; simpa using hv
  | r :: rs, qs, vs, hc, hv => by
    simp only [List.mapM_cons, Option.bind_eq_bind, Option.bind_eq_some_iff, Option.pure_def, Option.some.injEq] at hc
    obtain ⟨q, hq, qs', hqs, rfl⟩ := hc
    simp only [List.mapM_cons, Option.bind_eq_bind, Option.bind_eq_some_iff, Option.pure_def, Option.some.injEq] at hv ⊢
    obtain ⟨v, hv1, vs', hvs, rfl⟩ := hv
    refine ⟨v, ?_, vs', resR_sound h hqs hvs, rfl⟩
    cases r with
    | tmp t =>
      simp only [compRes, Option.map_eq_some_iff] at hq
      obtain ⟨p, hp, rfl⟩ := hq
      simp only [resR, Option.some.injEq] at hv1
      simp only [resV, h.pos hp, hv1]
    | cell x t =>
      simp only [compRes, Option.bind_eq_some_iff, Option.map_eq_some_iff] at hq
      obtain ⟨p, hp, l, hl, rfl⟩ := hq
      simp only [resR] at hv1
      simp only [resV, hl, Option.bind_some, h.pos hp, hv1]

def TabOk (P : Program) (M : Nat → Nat) (T : Nat → Option RF) : Prop := ∀ f rf, T f = some rf → ∃ locs, compF P M rf.np locs f = some rf

theorem nodupB_spec : ∀ {l : List Nat}, nodupB l = true → l.Nodup
  | [], _ => List.nodup_nil
  | x :: l, h => by
    simp only [nodupB, Bool.and_eq_true, Bool.not_eq_true'] at h
    exact List.nodup_cons.2 ⟨by simpa using h.1, nodupB_spec h.2⟩

theorem compact_sound {T : Nat → Option RF} (hT : TabOk P M T) : ∀ n, (∀ f args st r, callR T n f args st = some r → callN P M n f args st = some r) ∧
    (∀ c lay rc E env st x env' st', compC P M lay c = some rc → LayRel lay E env → runR T n rc env st = some (x, env', st') → ∃ E', runC P M n c E st = some (x, E', st') ∧ LayRel lay E' env')
  | 0 => ⟨fun f args st r h => by simp [callR] at h, fun c lay rc E env st x env' st' _ _ h => by simp [runR] at h⟩
  | n + 1 => by
    obtain ⟨hcall, hcode⟩ := compact_sound hT n
    refine ⟨fun f args st r h => ?_, fun c lay rc E env st x env' st' hc hr h => ?_⟩
    · simp only [callR] at h
      split at h <;> try (cases h; done)
      rename_i rf hrf
      obtain ⟨locs, hcomp⟩ := hT f rf hrf
      split at h <;> try (cases h; done)
      rename_i hlen
      unfold compF at hcomp
      split at hcomp <;> try (cases hcomp; done)
      rename_i fn hfn
      split at hcomp <;> try (cases hcomp; done)
      rename_i hname
      split at hcomp <;> try (cases hcomp; done)
      rename_i c hc
      split at hcomp <;> try (cases hcomp; done)
      rename_i hok
      split at hcomp <;> try (cases hcomp; done)
      rename_i hnd
      simp only [Option.bind_eq_some_iff, Option.map_eq_some_iff] at hcomp
      obtain ⟨rc, hrc, res, hres, hrf'⟩ := hcomp
      obtain ⟨rmode, rnp, rnloc, rcode, rres⟩ := rf
      simp only [RF.mk.injEq] at hrf'
      obtain ⟨rfl, _, rfl, rfl, rfl⟩ := hrf'
      simp only at h hlen hrc hres hnd
      simp only [Bool.not_eq_true', Bool.not_eq_false, Bool.and_eq_true] at hnd
      have entryRel : ∀ as : List AV, as.length = args.length → LayRel (List.range args.length ++ locs) (entry as) (as ++ List.replicate locs.length undefA) := fun as has => by
        refine ⟨by simp [has], fun i hi => ?_, by have := nodupB_spec hnd.1; rwa [← hlen] at this⟩
        rcases Nat.lt_or_ge i args.length with h1 | h1
        · have e1 : (List.range args.length ++ locs).getD i 0 = i := by
            simp only [List.getD]
            rw [List.getElem?_append_left (by simpa using h1)]
            simp [h1]
          have e2 : (as ++ List.replicate locs.length undefA).getD i .unk = as.getD i .unk := by
            simp only [List.getD]
            rw [List.getElem?_append_left (by omega)]
          rw [e1, e2]
          simp [entry, List.getD, show i < as.length by omega]
        · have h2 : i - args.length < locs.length := by simp at hi; omega
          have e1 : (List.range args.length ++ locs).getD i 0 = locs[i - args.length] := by
            simp only [List.getD]
            rw [List.getElem?_append_right (by simpa using h1)]
            simp [h2]
          have e2 : (as ++ List.replicate locs.length undefA).getD i .unk = undefA := by
            simp only [List.getD]
            rw [List.getElem?_append_right (by omega)]
            simp [has, h2]
          have h3 : args.length ≤ locs[i - args.length] := by
            have := List.all_eq_true.1 hnd.2 (locs[i - args.length]) (by simp)
            have h4 : rnp ≤ locs[i - args.length] := by simpa using this
            omega
          rw [e1, e2]
          simp [entry, List.getD, List.getElem?_eq_none (show as.length ≤ locs[i - args.length] by omega)]
      rw [← hlen] at hrc hres
      simp only [callN, hfn, hname, hc, hok, Bool.false_eq_true, if_false]
      split at h
      · rename_i hM
        simp only [hM, if_true, Option.bind_eq_some_iff] at h ⊢
        obtain ⟨⟨a, s1⟩, h1, h⟩ := h
        refine ⟨(a, s1), h1, ?_⟩
        have hal : a.length = args.length := by
          have : ∀ (l : List AV) (st : Store) (ys : List AV) (st' : Store), mapS (erase eraseFuel) l st = some (ys, st') → ys.length = l.length := by
            intro l
            induction l with
            | nil => intro st ys st' h; simp [mapS] at h; simp [h.1.symm]
            | cons x l ih =>
              intro st ys st' h
              simp only [mapS, Option.bind_eq_some_iff, Option.map_eq_some_iff, Prod.mk.injEq] at h
              obtain ⟨_, _, ⟨zs, s2⟩, h2, rfl, rfl⟩ := h
              simp [ih _ _ _ h2]
          exact this _ _ _ _ h1
        simp only at h
        split at h <;> try (cases h; done)
        rename_i x env st2 hrun
        obtain ⟨E', g1, g2⟩ := hcode c _ rc _ _ _ _ _ _ hrc (entryRel a hal) hrun
        split at h <;> try (cases h; done)
        rename_i hx
        simp only [Option.bind_eq_some_iff, Option.map_eq_some_iff] at h
        obtain ⟨vs, hvs, r', her, rfl⟩ := h
        simp only [g1, hx, if_true, resA, resR_sound g2 hres hvs, Option.map_some, Option.bind_some, her]
      · rename_i hM
        simp only [hM, Bool.false_eq_true, if_false] at h ⊢
        split at h <;> try (cases h; done)
        rename_i x env st2 hrun
        obtain ⟨E', g1, g2⟩ := hcode c _ rc _ _ _ _ _ _ hrc (entryRel args rfl) hrun
        split at h <;> try (cases h; done)
        rename_i hx
        simp only [Option.map_eq_some_iff] at h
        obtain ⟨vs, hvs, rfl⟩ := h
        simp only [g1, hx, if_true, resA, resR_sound g2 hres hvs, Option.map_some]
    · cases c with
      | skip =>
        simp only [compC, Option.some.injEq] at hc; subst hc
        simp only [runR, Option.some.injEq, Prod.mk.injEq] at h
        obtain ⟨rfl, rfl, rfl⟩ := h
        exact ⟨E, rfl, hr⟩
      | label l =>
        simp only [compC, Option.some.injEq] at hc; subst hc
        simp only [runR, Option.some.injEq, Prod.mk.injEq] at h
        obtain ⟨rfl, rfl, rfl⟩ := h
        exact ⟨E, rfl, hr⟩
      | exit id =>
        simp only [compC, Option.some.injEq] at hc; subst hc
        simp only [runR, Option.some.injEq, Prod.mk.injEq] at h
        obtain ⟨rfl, rfl, rfl⟩ := h
        exact ⟨E, rfl, hr⟩
      | ret =>
        simp only [compC, Option.some.injEq] at hc; subst hc
        simp only [runR, Option.some.injEq, Prod.mk.injEq] at h
        obtain ⟨rfl, rfl, rfl⟩ := h
        exact ⟨E, rfl, hr⟩
      | region id ops draw =>
        simp only [compC] at hc
        split at hc
        · injection hc with hc; subst hc
          simp [runR] at h
        rename_i q hq
        simp only [Option.map_eq_some_iff] at hc
        obtain ⟨⟨ros, lay'⟩, hops, rfl⟩ := hc
        simp only [runR, Option.map_eq_some_iff, Prod.mk.injEq] at h
        obtain ⟨⟨env1, st1⟩, hreg, rfl, rfl, rfl⟩ := h
        obtain ⟨E', g1, g2⟩ := regionR_sound (P := P) (M := M) (call' := callN P M n) (fun f vs st r h => hcall f vs st r h) hq hops hr hreg
        obtain ⟨pre, hpre⟩ := compOps_drop hops
        refine ⟨E', ?_, g2.drop hpre⟩
        simp only [runC, g1, Option.map_some]
      | seq a b =>
        simp only [compC, Option.bind_eq_some_iff, Option.map_eq_some_iff] at hc
        obtain ⟨x1, hx1, y1, hy1, rfl⟩ := hc
        simp only [runR] at h
        simp only [runC]
        split at h
        · rename_i env1 st1 h1
          obtain ⟨E1, g1, g2⟩ := hcode a lay x1 E env st _ env1 st1 hx1 hr h1
          obtain ⟨E2, k1, k2⟩ := hcode b lay y1 E1 env1 st1 _ _ _ hy1 g2 h
          exact ⟨E2, by simp only [g1, k1], k2⟩
        · rename_i hne
          obtain ⟨E1, g1, g2⟩ := hcode a lay x1 E env st _ _ _ hx1 hr h
          refine ⟨E1, ?_, g2⟩
          cases x with
          | normal => exact absurd h (hne _ _)
          | _ => simp only [g1]
      | cond q a b =>
        simp only [compC, Option.bind_eq_some_iff, Option.map_eq_some_iff] at hc
        obtain ⟨k, hk, x1, hx1, y1, hy1, rfl⟩ := hc
        simp only [runR] at h
        simp only [runC, hr.arg hk]
        split at h <;> try (cases h; done)
        · rename_i hb
          simp only [hb]
          exact hcode a lay x1 E env st _ _ _ hx1 hr h
        · rename_i hb
          simp only [hb]
          exact hcode b lay y1 E env st _ _ _ hy1 hr h
      | block id p =>
        simp only [compC, Option.map_eq_some_iff] at hc
        obtain ⟨x1, hx1, rfl⟩ := hc
        simp only [runR] at h
        simp only [runC]
        split at h
        · rename_i j env1 st1 h1
          obtain ⟨E1, g1, g2⟩ := hcode p lay x1 E env st _ env1 st1 hx1 hr h1
          split at h
          · rename_i hj
            simp only [Option.some.injEq, Prod.mk.injEq] at h
            obtain ⟨rfl, rfl, rfl⟩ := h
            exact ⟨E1, by simp only [g1, hj, if_true], g2⟩
          · rename_i hj
            simp only [Option.some.injEq, Prod.mk.injEq] at h
            obtain ⟨rfl, rfl, rfl⟩ := h
            exact ⟨E1, by simp only [g1, hj, if_false], g2⟩
        · rename_i hne
          obtain ⟨E1, g1, g2⟩ := hcode p lay x1 E env st _ _ _ hx1 hr h
          refine ⟨E1, ?_, g2⟩
          cases x with
          | exit j => exact absurd h (hne _ _ _)
          | _ => simp only [g1]
      | loop p =>
        have hc0 := hc
        simp only [compC, Option.map_eq_some_iff] at hc
        obtain ⟨x1, hx1, rfl⟩ := hc
        simp only [runR] at h
        simp only [runC]
        split at h
        · rename_i env1 st1 h1
          obtain ⟨E1, g1, g2⟩ := hcode p lay x1 E env st _ env1 st1 hx1 hr h1
          obtain ⟨E2, k1, k2⟩ := hcode (.loop p) lay (.loop x1) E1 env1 st1 _ _ _ hc0 g2 h
          exact ⟨E2, by simp only [g1, k1], k2⟩
        · rename_i hne
          obtain ⟨E1, g1, g2⟩ := hcode p lay x1 E env st _ _ _ hx1 hr h
          refine ⟨E1, ?_, g2⟩
          cases x with
          | normal => exact absurd h (hne _ _)
          | _ => simp only [g1]
      | rangeFunc => simp only [compC, Option.some.injEq] at hc; subst hc; simp [runR] at h
      | scope => simp only [compC, Option.some.injEq] at hc; subst hc; simp [runR] at h
      | goto => simp only [compC, Option.some.injEq] at hc; subst hc; simp [runR] at h
      | refuse => simp only [compC, Option.some.injEq] at hc; subst hc; simp [runR] at h

end
end Go.Proofs.Ago
