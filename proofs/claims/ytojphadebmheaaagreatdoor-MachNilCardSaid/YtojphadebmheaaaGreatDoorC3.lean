/- More rounds answer the same; runs that look up what was found out before. -/
import Derived.Test.YtojphadebmheaaaGreatDoorC2
namespace Go.Proofs.Ago
open Go
variable {T : Nat → Option RF}

theorem execR_mono {sl : Option Nat} {hid : List Nat} {call call' : CallF} (hcall : ∀ f vs st r, call f vs st = some r → call' f vs st = some r) {k : RKind} {vs : List AV} {st : Store} {r : AV × Store} (h : execR sl hid call k vs st = some r) : execR sl hid call' k vs st = some r := by
  cases k with
  | p r => exact h
  | call f m => exact callH_mono hcall h
  | clos =>
    simp only [execR] at h ⊢
    split at h
    · exact callH_mono hcall h
    · cases h
  | fail => exact h

theorem regR_mono {tr : Bool} {base : Option Nat} {call call' : CallF} (hcall : ∀ f vs st r, call f vs st = some r → call' f vs st = some r) : ∀ (ops : List RO) (b : Option Nat) (env : List AV) (st : Store) (x : List AV × Store × List RawE), regR tr call base b ops env st = some x → regR tr call' base b ops env st = some x
  | [], b, env, st, x, h => h
  | o :: ops, b, env, st, x, h => by
    simp only [regR] at h ⊢
    split at h
    · rename_i hw
      simp only [Option.bind_eq_some_iff, Option.map_eq_some_iff] at h
      obtain ⟨r, h1, s, h2, h3⟩ := h
      simp only [execR_mono hcall h1, Option.bind_some, regR_mono hcall ops _ _ _ _ h2, Option.map_some, h3]
    · rename_i hw
      simp only [Option.map_eq_some_iff] at h
      obtain ⟨s, h2, h3⟩ := h
      simp only [regR_mono hcall ops _ _ _ _ h2, Option.map_some, h3]
    · cases h

theorem regionR_mono {call call' : CallF} (hcall : ∀ f vs st r, call f vs st = some r → call' f vs st = some r) {q : Option (List (Nat × Nat))} {ops : List RO} {s : Nat} {env : List AV} {st : Store} {x : List AV × Store} (h : regionR call q ops s env st = some x) : regionR call' q ops s env st = some x := by
  unfold regionR at h ⊢
  split at h
  · simp only [Option.map_eq_some_iff] at h ⊢
    obtain ⟨a, h1, h2⟩ := h
    exact ⟨a, regR_mono hcall _ _ _ _ _ h1, h2⟩
  · simp only [Option.map_eq_some_iff] at h ⊢
    obtain ⟨a, h1, h2⟩ := h
    exact ⟨a, regR_mono hcall _ _ _ _ _ h1, h2⟩
  · simp only [Option.bind_eq_some_iff] at h ⊢
    obtain ⟨a, h1, h2⟩ := h
    exact ⟨a, regR_mono hcall _ _ _ _ _ h1, h2⟩

theorem run_succ : ∀ n, (∀ f args st r, callR T n f args st = some r → callR T (n + 1) f args st = some r) ∧ (∀ c env st r, runR T n c env st = some r → runR T (n + 1) c env st = some r)
  | 0 => ⟨fun f args st r h => by simp [callR] at h, fun c env st r h => by simp [runR] at h⟩
  | n + 1 => by
    obtain ⟨hcall, hrun⟩ := run_succ n
    refine ⟨fun f args st r h => ?_, fun c env st r h => ?_⟩
    · rw [callR] at h ⊢
      cases hT : T f with
      | none => simp [hT] at h
      | some rf =>
        simp only [hT] at h ⊢
        split at h <;> try (cases h; done)
        rename_i hl
        rw [if_pos hl]
        split at h
        · rename_i hp
          rw [if_pos hp]
          simp only [Option.bind_eq_some_iff] at h ⊢
          obtain ⟨a, h1, h⟩ := h
          refine ⟨a, h1, ?_⟩
          split at h <;> try (cases h; done)
          rename_i hr
          rw [hrun _ _ _ _ hr]
          exact h
        · rename_i hp
          rw [if_neg hp]
          split at h <;> try (cases h; done)
          rename_i hr
          rw [hrun _ _ _ _ hr]
          exact h
    · cases c with
      | skip => rw [runR] at h ⊢; exact h
      | reg q ops k s =>
        rw [runR] at h ⊢
        simp only [Option.map_eq_some_iff] at h ⊢
        obtain ⟨a, h1, h2⟩ := h
        exact ⟨a, regionR_mono hcall h1, h2⟩
      | seq a b =>
        rw [runR] at h ⊢
        split at h
        · rename_i h1
          rw [hrun _ _ _ _ h1]
          exact hrun _ _ _ _ h
        · rename_i hne
          have h1 := hrun _ _ _ _ h
          rw [h1]
          split
          · rename_i e s heq
            injection heq with heq
            subst heq
            exact absurd h (hne _ _)
          · rfl
      | cond c a b =>
        rw [runR] at h ⊢
        split at h
        · exact hrun _ _ _ _ h
        · exact hrun _ _ _ _ h
        · cases h
      | block id c =>
        rw [runR] at h ⊢
        split at h
        · rename_i h1
          rw [hrun _ _ _ _ h1]
          exact h
        · rename_i hne
          have h1 := hrun _ _ _ _ h
          rw [h1]
          split
          · rename_i e s heq
            injection heq with heq
            subst heq
            exact absurd h (hne _ _ _)
          · rfl
      | loop c =>
        rw [runR] at h ⊢
        split at h
        · rename_i h1
          rw [hrun _ _ _ _ h1]
          exact hrun _ _ _ _ h
        · rename_i hne
          have h1 := hrun _ _ _ _ h
          rw [h1]
          split
          · rename_i e s heq
            injection heq with heq
            subst heq
            exact absurd h (hne _ _)
          · rfl
      | exit id => rw [runR] at h ⊢; exact h
      | ret => rw [runR] at h ⊢; exact h
      | fail => rw [runR] at h; cases h

theorem callR_mono {n m : Nat} (h : n ≤ m) {f : Nat} {args : List AV} {st : Store} {r : AV × Store} (hr : callR T n f args st = some r) : callR T m f args st = some r := by
  induction h with
  | refl => exact hr
  | step _ ih => exact (run_succ _).1 _ _ _ _ ih

theorem runR_mono {n m : Nat} (h : n ≤ m) {c : RC} {env : List AV} {st : Store} {r : AX × List AV × Store} (hr : runR T n c env st = some r) : runR T m c env st = some r := by
  induction h with
  | refl => exact hr
  | step _ ih => exact (run_succ _).2 _ _ _ _ ih

/-! ### What was found out before -/

/-- A function on plain data, alone. -/
def bodyR (T : Nat → Option RF) (n : Nat) (rf : RF) (ps : List AV) : Option AV :=
  match runR T n rf.code (ps ++ List.replicate rf.nloc undefA) [] with
  | some (x, env, st') => if x = .normal ∨ x = .ret then (rf.res.mapM (resR env st')).bind fun r => (erase eraseFuel (tupOf r) st').map (·.1) else none
  | none => none

/-- Functions, plain arguments, answers. -/
abbrev Memo := List (Nat × List AV × AV)

def lookM (f : Nat) (ps : List AV) : Memo → Option AV
  | [] => none
  | e :: l => bif Nat.beq e.1 f && eqAVs e.2.1 ps then some e.2.2 else lookM f ps l

mutual
def runM (T : Nat → Option RF) (O : Memo) : Nat → RC → List AV → Store → Option (AX × List AV × Store)
  | 0, _, _, _ => none
  | n + 1, c, env, st =>
    match c with
    | .skip => some (.normal, env, st)
    | .reg q ops k s => (regionR (callM T O n) q ops s env st).map fun S => (.normal, S.1.drop k, S.2)
    | .seq a b => match runM T O n a env st with
      | some (.normal, env, st) => runM T O n b env st
      | r => r
    | .cond c a b => match argV env c with
      | .bool true => runM T O n a env st
      | .bool false => runM T O n b env st
      | _ => none
    | .block id c => match runM T O n c env st with
      | some (.exit j, env, st) => if j = id then some (.normal, env, st) else some (.exit j, env, st)
      | r => r
    | .loop c => match runM T O n c env st with
      | some (.normal, env, st) => runM T O n (.loop c) env st
      | r => r
    | .exit id => some (.exit id, env, st)
    | .ret => some (.ret, env, st)
    | .fail => none
def callM (T : Nat → Option RF) (O : Memo) : Nat → Nat → List AV → Store → Option (AV × Store)
  | 0, _, _, _ => none
  | n + 1, f, args, st =>
    match T f with
    | none => none
    | some rf =>
      if args.length = rf.np then
        if isPure rf.mode args then
          (mapS (erase eraseFuel) args st).bind fun a =>
          match lookM f a.1 O with
          | some r => some (r, a.2)
          | none =>
            match runM T O n rf.code (a.1 ++ List.replicate rf.nloc undefA) [] with
            | some (x, env, st') => if x = .normal ∨ x = .ret then
                (rf.res.mapM (resR env st')).bind fun r => (erase eraseFuel (tupOf r) st').map fun r => (r.1, a.2) else none
            | none => none
        else
          match runM T O n rf.code (args ++ List.replicate rf.nloc undefA) st with
          | some (x, env, st') => if x = .normal ∨ x = .ret then (rf.res.mapM (resR env st')).map fun r => (tupOf r, st') else none
          | none => none
      else none
end

def bodyM (T : Nat → Option RF) (O : Memo) (n : Nat) (rf : RF) (ps : List AV) : Option AV :=
  match runM T O n rf.code (ps ++ List.replicate rf.nloc undefA) [] with
  | some (x, env, st') => if x = .normal ∨ x = .ret then (rf.res.mapM (resR env st')).bind fun r => (erase eraseFuel (tupOf r) st').map (·.1) else none
  | none => none

def MemoOk (T : Nat → Option RF) (B : Nat) (O : Memo) : Prop := ∀ e ∈ O, ∃ rf, T e.1 = some rf ∧ bodyR T B rf e.2.1 = some e.2.2

theorem lookM_spec {f : Nat} {ps : List AV} {r : AV} : ∀ {O : Memo}, lookM f ps O = some r → (f, ps, r) ∈ O
  | [], h => by cases h
  | e :: l, h => by
    simp only [lookM] at h
    cases hc : (Nat.beq e.1 f && eqAVs e.2.1 ps) with
    | true =>
      simp only [hc, cond_true, Option.some.injEq] at h
      simp only [Bool.and_eq_true] at hc
      obtain ⟨h1, h2⟩ := hc
      obtain ⟨a, b, c⟩ := e
      obtain rfl : a = f := Nat.eq_of_beq_eq_true h1
      obtain rfl : b = ps := eqAVs_spec h2
      subst h
      exact List.mem_cons_self ..
    | false =>
      simp only [hc, cond_false] at h
      exact List.mem_cons_of_mem _ (lookM_spec h)

theorem bodyR_mono {n m : Nat} (h : n ≤ m) {rf : RF} {ps : List AV} {r : AV} (hr : bodyR T n rf ps = some r) : bodyR T m rf ps = some r := by
  unfold bodyR at hr ⊢
  split at hr <;> try (cases hr; done)
  rename_i h1
  rw [runR_mono h h1]
  exact hr

theorem memo_sound {B : Nat} {O : Memo} (hO : MemoOk T B O) : ∀ n, (∀ f args st r, callM T O n f args st = some r → callR T (n + (B + 1)) f args st = some r) ∧ (∀ c env st r, runM T O n c env st = some r → runR T (n + (B + 1)) c env st = some r)
  | 0 => ⟨fun f args st r h => by simp [callM] at h, fun c env st r h => by simp [runM] at h⟩
  | n + 1 => by
    obtain ⟨hcall, hrun⟩ := memo_sound hO n
    rw [show n + 1 + (B + 1) = (n + (B + 1)) + 1 from by omega]
    refine ⟨fun f args st r h => ?_, fun c env st r h => ?_⟩
    · rw [callM] at h
      rw [callR]
      cases hT : T f with
      | none => simp [hT] at h
      | some rf =>
        simp only [hT] at h ⊢
        split at h <;> try (cases h; done)
        rename_i hl
        rw [if_pos hl]
        split at h
        · rename_i hp
          rw [if_pos hp]
          simp only [Option.bind_eq_some_iff] at h
          obtain ⟨a, h1, h⟩ := h
          rw [h1, Option.bind_some]
          split at h
          · rename_i r' hlook
            injection h with h
            subst h
            obtain ⟨rf', hT', hb⟩ := hO _ (lookM_spec hlook)
            simp only [hT, Option.some.injEq] at hT'
            subst hT'
            have hb := bodyR_mono (show B ≤ n + (B + 1) by omega) hb
            unfold bodyR at hb
            split at hb <;> try (cases hb; done)
            rename_i x env st' hr
            split at hb <;> try (cases hb; done)
            rename_i hx
            simp only [Option.bind_eq_some_iff, Option.map_eq_some_iff] at hb
            obtain ⟨vs, hvs, y, hy, rfl⟩ := hb
            simp only [hr, hx, if_true, hvs, Option.bind_some, hy, Option.map_some]
          · split at h <;> try (cases h; done)
            rename_i hr
            rw [hrun _ _ _ _ hr]
            exact h
        · rename_i hp
          rw [if_neg hp]
          split at h <;> try (cases h; done)
          rename_i hr
          rw [hrun _ _ _ _ hr]
          exact h
    · cases c with
      | skip => rw [runM] at h; rw [runR]; exact h
      | reg q ops k s =>
        rw [runM] at h; rw [runR]
        simp only [Option.map_eq_some_iff] at h ⊢
        obtain ⟨a, h1, h2⟩ := h
        exact ⟨a, regionR_mono hcall h1, h2⟩
      | seq a b =>
        rw [runM] at h; rw [runR]
        split at h
        · rename_i h1
          rw [hrun _ _ _ _ h1]
          exact hrun _ _ _ _ h
        · rename_i hne
          have h1 := hrun _ _ _ _ h
          rw [h1]
          split
          · rename_i e s heq
            injection heq with heq
            subst heq
            exact absurd h (hne _ _)
          · rfl
      | cond c a b =>
        rw [runM] at h; rw [runR]
        split at h
        · rename_i hb; simp only [hb]; exact hrun _ _ _ _ h
        · rename_i hb; simp only [hb]; exact hrun _ _ _ _ h
        · cases h
      | block id c =>
        rw [runM] at h; rw [runR]
        split at h
        · rename_i h1
          rw [hrun _ _ _ _ h1]
          exact h
        · rename_i hne
          have h1 := hrun _ _ _ _ h
          rw [h1]
          split
          · rename_i e s heq
            injection heq with heq
            subst heq
            exact absurd h (hne _ _ _)
          · rfl
      | loop c =>
        rw [runM] at h; rw [runR]
        split at h
        · rename_i h1
          rw [hrun _ _ _ _ h1]
          exact hrun _ _ _ _ h
        · rename_i hne
          have h1 := hrun _ _ _ _ h
          rw [h1]
          split
          · rename_i e s heq
            injection heq with heq
            subst heq
            exact absurd h (hne _ _)
          · rfl
      | exit id => rw [runM] at h; rw [runR]; exact h
      | ret => rw [runM] at h; rw [runR]; exact h
      | fail => rw [runM] at h; cases h

theorem MemoOk.nil (T : Nat → Option RF) : MemoOk T 0 [] := fun e h => by cases h

/-- One answer more. -/
theorem MemoOk.cons {B n f : Nat} {O : Memo} {rf : RF} {ps : List AV} {r : AV} (hO : MemoOk T B O) (hT : T f = some rf) (h : bodyM T O n rf ps = some r) : MemoOk T (n + (B + 1)) ((f, ps, r) :: O) := by
  intro e he
  rcases List.mem_cons.1 he with rfl | he
  · refine ⟨rf, hT, ?_⟩
    unfold bodyM at h
    unfold bodyR
    split at h <;> try (cases h; done)
    rename_i h1
    rw [(memo_sound hO n).2 _ _ _ _ h1]
    exact h
  · obtain ⟨rf', h1, h2⟩ := hO e he
    exact ⟨rf', h1, bodyR_mono (by omega) h2⟩

end Go.Proofs.Ago
