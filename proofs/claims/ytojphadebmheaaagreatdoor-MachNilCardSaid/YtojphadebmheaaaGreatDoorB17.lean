/- Whatever order a region draws: the order of the text answers the same. -/
import Derived.Test.YtojphadebmheaaaGreatDoorB16
namespace Go.Proofs.Ago
open Go
variable {P : Program} {M : Nat → Nat}

theorem hide_get (hid : List Nat) (st : Store) (i : Nat) : (hide hid st)[i]? = if hid.contains i then (st[i]?).map fun _ => Blk.dead else st[i]? := by
  simp only [hide, List.getElem?_mapIdx]
  cases st[i]? with
  | none => simp
  | some c =>
    simp only [Option.map_some]
    split <;> rfl

theorem restore_get (hid : List Nat) (old new : Store) (i : Nat) : (restore hid old new)[i]? = if hid.contains i then (new[i]?).map fun c => (old[i]?).getD c else new[i]? := by
  simp only [restore, List.getElem?_mapIdx]
  cases new[i]? with
  | none => simp
  | some c =>
    simp only [Option.map_some]
    split <;> rfl

/-- Something that is done with some places hidden. -/
def maskF (hid : List Nat) (f : Store → Option (AV × Store)) : Store → Option (AV × Store) := fun st =>
  match hid with
  | [] => f st
  | _ => (f (hide hid st)).bind fun r => if hid.all (fun i => Nat.blt i st.length) && Nat.ble st.length r.2.length then some (r.1, restore hid st r.2) else none

theorem maskF_spec {hid : List Nat} (hne : hid ≠ []) {f : Store → Option (AV × Store)} {st st' : Store} {v : AV} (h : maskF hid f st = some (v, st')) :
    ∃ st1, f (hide hid st) = some (v, st1) ∧ (∀ b ∈ hid, b < st.length) ∧ st.length ≤ st1.length ∧ st' = restore hid st st1 := by
  cases hid with
  | nil => exact absurd rfl hne
  | cons a l =>
    simp only [maskF, Option.bind_eq_some_iff] at h
    obtain ⟨⟨v1, st1⟩, h1, h⟩ := h
    split at h <;> try (cases h; done)
    rename_i hc
    simp only [Bool.and_eq_true, List.all_eq_true, Nat.blt_eq, Nat.ble_eq] at hc
    injection h with h; injection h with h2 h3; subst h2; subst h3
    exact ⟨st1, h1, hc.1, hc.2, rfl⟩

theorem maskF_of {hid : List Nat} (hne : hid ≠ []) {f : Store → Option (AV × Store)} {st st1 : Store} {v : AV} (h : f (hide hid st) = some (v, st1)) (h1 : ∀ b ∈ hid, b < st.length) (h2 : st.length ≤ st1.length) :
    maskF hid f st = some (v, restore hid st st1) := by
  cases hid with
  | nil => exact absurd rfl hne
  | cons a l =>
    have hc : ((a :: l).all (fun i => Nat.blt i st.length) && Nat.ble st.length st1.length) = true := by
      simp only [Bool.and_eq_true, List.all_eq_true, Nat.blt_eq, Nat.ble_eq]
      exact ⟨h1, h2⟩
    simp only [maskF, h, Option.bind_some, hc, if_true]

theorem applyU_length (l : List (Nat × Blk)) : ∀ st : Store, (applyU l st).length = st.length := by
  induction l with
  | nil => intro st; rfl
  | cons p l ih => intro st; show (applyU l (st.set p.1 p.2)).length = _; rw [ih]; simp

theorem inFp_spec {x : List Nat × List Nat} {hid : List Nat} (h : inFp x hid = true) : (∀ b ∈ x.1, b ∈ hid) ∧ ∀ b ∈ x.2, b ∈ hid := by
  simp only [inFp, Bool.and_eq_true, List.all_eq_true, List.contains_iff_mem] at h
  exact h

theorem hide_applyU {hid : List Nat} {st : Store} {ups : List (Nat × Blk)} (hk : ∀ p ∈ ups, p.1 ∈ hid) (hl : ∀ b ∈ hid, b < st.length) : hide hid (applyU ups st) = hide hid st := by
  apply List.ext_getElem?
  intro b
  rw [hide_get, hide_get]
  by_cases hb : hid.contains b = true
  · rw [if_pos hb, if_pos hb]
    have h1 := hl b (by simpa using hb)
    rw [List.getElem?_eq_getElem h1, List.getElem?_eq_getElem (by rw [applyU_length]; exact h1)]
    rfl
  · rw [if_neg hb, if_neg hb]
    exact applyU_get (fun p hp he => hb (by simpa using he ▸ hk p hp)) st

theorem restore_applyU {hid : List Nat} {st st1 : Store} {ups : List (Nat × Blk)} (hk : ∀ p ∈ ups, p.1 ∈ hid) (hl : ∀ b ∈ hid, b < st.length) (hle : st.length ≤ st1.length) :
    restore hid (applyU ups st) st1 = applyU ups (restore hid st st1) := by
  apply List.ext_getElem?
  intro b
  rw [restore_get]
  by_cases hb : hid.contains b = true
  · rw [if_pos hb]
    have h1 := hl b (by simpa using hb)
    have h2 : (restore hid st st1)[b]? = st[b]? := by
      rw [restore_get, if_pos hb, List.getElem?_eq_getElem (show b < st1.length by omega), List.getElem?_eq_getElem h1]
      rfl
    rw [applyU_congr h2, List.getElem?_eq_getElem (show b < st1.length by omega), List.getElem?_eq_getElem (show b < (applyU ups st).length by rw [applyU_length]; exact h1)]
    rfl
  · rw [if_neg hb, applyU_get (fun p hp he => hb (by simpa using he ▸ hk p hp)), restore_get, if_neg hb]

/-- What is done with places hidden, ahead of what is done there. -/
theorem mask_left {hid : List Nat} {R W : List Nat} {f g : Store → Option (AV × Store)} {st sv su : Store} {v u : AV} (hf : maskF hid f st = some (v, sv)) (hg : LocalAt sv R W g) (hin : inFp (R, W) hid = true) (h2 : g sv = some (u, su)) :
    (∀ b ∈ R, st[b]? = sv[b]?) ∧ ∃ s3, g st = some (u, s3) ∧ maskF hid f s3 = some (v, su) := by
  by_cases hne : hid = []
  · subst hne
    obtain ⟨h3, h4⟩ := hg.still hin h2
    subst h3
    have hR : R = [] := by
      cases R with
      | nil => rfl
      | cons x l => simp [inFp] at hin
    subst hR
    exact ⟨fun b hb => by simp at hb, st, h4 st, hf⟩
  · obtain ⟨st1, h1, hl, hle, rfl⟩ := maskF_spec hne hf
    obtain ⟨i1, i2⟩ := inFp_spec hin
    obtain ⟨ups, k, rfl, g2⟩ := hg u su h2
    have hk : ∀ p ∈ ups, p.1 ∈ hid := fun p hp => i2 _ (k p hp)
    have hat : ∀ b ∈ hid, st[b]? = (restore hid st st1)[b]? := fun b hb => by
      have h1 := hl b hb
      rw [restore_get, if_pos (by simpa using hb), List.getElem?_eq_getElem (show b < st1.length by omega), List.getElem?_eq_getElem h1]
      rfl
    refine ⟨fun b hb => hat b (i1 b hb), applyU ups st, g2 st fun b hb => hat b (hb.elim (i1 b) (i2 b)), ?_⟩
    rw [← restore_applyU hk hl hle]
    exact maskF_of hne (by rw [hide_applyU hk hl]; exact h1) (fun b hb => by rw [applyU_length]; exact hl b hb) (by rw [applyU_length]; exact hle)

/-- What is done with places hidden, behind what is done there. -/
theorem mask_right {hid : List Nat} {R W : List Nat} {f g : Store → Option (AV × Store)} {st sv su : Store} {v u : AV} (hf : LocalAt st R W f) (hin : inFp (R, W) hid = true) (h1 : f st = some (v, sv)) (hg : maskF hid g sv = some (u, su)) :
    ∃ s3, maskF hid g st = some (u, s3) ∧ f s3 = some (v, su) ∧ ∀ b ∈ R, s3[b]? = st[b]? := by
  by_cases hne : hid = []
  · subst hne
    obtain ⟨h3, h4⟩ := hf.still hin h1
    subst h3
    have hR : R = [] := by
      cases R with
      | nil => rfl
      | cons x l => simp [inFp] at hin
    subst hR
    exact ⟨su, hg, h4 su, fun b hb => by simp at hb⟩
  · obtain ⟨i1, i2⟩ := inFp_spec hin
    obtain ⟨ups, k, rfl, g2⟩ := hf v sv h1
    have hk : ∀ p ∈ ups, p.1 ∈ hid := fun p hp => i2 _ (k p hp)
    obtain ⟨st1, h3, hl, hle, rfl⟩ := maskF_spec hne hg
    have hl' : ∀ b ∈ hid, b < st.length := fun b hb => by have := hl b hb; rwa [applyU_length] at this
    rw [applyU_length] at hle
    rw [hide_applyU hk hl'] at h3
    have hat : ∀ b ∈ hid, (restore hid st st1)[b]? = st[b]? := fun b hb => by
      have h1 := hl' b hb
      rw [restore_get, if_pos (by simpa using hb), List.getElem?_eq_getElem (show b < st1.length by omega), List.getElem?_eq_getElem h1]
      rfl
    refine ⟨restore hid st st1, maskF_of hne h3 hl' hle, ?_, fun b hb => hat b (i1 b hb)⟩
    rw [restore_applyU hk hl' hle]
    exact g2 _ fun b hb => hat b (hb.elim (i1 b) (i2 b))

theorem aval_put {E : Env} {dst : Option Tmp} {v : AV} {x : Operand} (h : ∀ d, dst = some d → x ≠ .tmp d) : aval (E.put dst v) x = aval E x := by
  cases dst with
  | none => rfl
  | some d =>
    cases x with
    | tmp t =>
      have : t ≠ d := fun e => h d rfl (e ▸ rfl)
      simp [aval, Env.put, this]
    | _ => rfl

theorem map_aval_put {o : Oper} {ops : Array Oper} {E : Env} {dst : Option Tmp} {v : AV} (h : ∀ d, dst = some d → d ∉ o.looksAt ops) {k : RK} {xs : List Operand} (hr : resOp P o.op = some (k, xs)) :
    xs.map (aval (E.put dst v)) = xs.map (aval E) :=
  List.map_congr_left fun x hx => aval_put fun d hd hxd => h d hd (by
    have := res_operands hr x hx
    subst hxd
    exact List.mem_append_left _ (List.mem_filterMap.2 ⟨.tmp d, by simpa using this, rfl⟩))

theorem exec1_put {q : Option Nat} {hid : List Nat} {call : CallF} {o : Oper} {ops : Array Oper} {E : Env} {dst : Option Tmp} {v : AV} {st : Store} (h : ∀ d, dst = some d → d ∉ o.looksAt ops) : exec1 P M q hid call (E.put dst v) st o = exec1 P M q hid call E st o := by
  unfold exec1
  cases hr : resOp P o.op with
  | none => rfl
  | some x =>
    obtain ⟨k, xs⟩ := x
    have hm := map_aval_put (P := P) (E := E) (v := v) h hr
    cases k with
    | prim r => simp only [hm]
    | call f => simp only [hm]
    | clos =>
      cases xs with
      | nil => rfl
      | cons y ys =>
        simp only [List.map_cons, List.cons.injEq] at hm
        simp only [hm.1, hm.2]

theorem wantedA_put {o : Oper} {ops : Array Oper} {E : Env} {dst : Option Tmp} {v : AV} (h : ∀ d, dst = some d → d ∉ o.looksAt ops) : wantedA ops (E.put dst v) o = wantedA ops E o := by
  unfold wantedA
  cases hg : o.guard with
  | none => rfl
  | some gw =>
    obtain ⟨g, want⟩ := gw
    simp only
    cases ht : (ops[g]?).bind (·.dst) with
    | none => rfl
    | some t =>
      have : (E.put dst v) t = E t := by
        cases dst with
        | none => rfl
        | some d =>
          have hne : t ≠ d := fun e => h d rfl (by subst e; simp [Oper.looksAt, hg, ht])
          simp [Env.put, hne]
      simp only [this]

theorem put_comm {E : Env} {x y : Option Tmp} {v u : AV} (h : ∀ d, x = some d → y ≠ some d) : (E.put x v).put y u = (E.put y u).put x v := by
  cases x with
  | none => rfl
  | some d =>
    cases y with
    | none => rfl
    | some e =>
      have hne : e ≠ d := fun he => h d rfl (he ▸ rfl)
      funext t
      simp only [Env.put]
      by_cases h1 : t = d <;> by_cases h2 : t = e
      · exact absurd (h2.symm.trans h1) hne
      · simp [h1, Ne.symm hne]
      · simp [h2, hne]
      · simp [h1, h2]

theorem fpS_put {base : Option Nat} {ops : Array Oper} {j : Nat} {oj : Oper} (hj : ops[j]? = some oj) {E : Env} {dst : Option Tmp} {v : AV} (h : ∀ d, dst = some d → d ∉ oj.looksAt ops) (st : Store) : fpS P M ops base j (E.put dst v) st = fpS P M ops base j E st := by
  unfold fpS
  simp only [hj, wantedA_put h]
  cases hw : wantedA ops E oj with
  | none => rfl
  | some b =>
    cases b with
    | false => rfl
    | true =>
      cases hr : resOp P oj.op with
      | none => rfl
      | some x =>
        obtain ⟨k, xs⟩ := x
        cases k with
        | prim r => simp only [map_aval_put (P := P) (E := E) (v := v) h hr]
        | call f => simp only [map_aval_put (P := P) (E := E) (v := v) h hr]
        | clos => rfl

/-- What an operation meets hangs on what it meets alone. -/
theorem fpS_store {base : Option Nat} {ops : Array Oper} {j : Nat} {E : Env} {st st2 : Store} (h : ∀ x, fpS P M ops base j E st = .inl x → ∀ b, b ∈ x.1 → st2[b]? = st[b]?) : fpS P M ops base j E st2 = fpS P M ops base j E st := by
  unfold fpS at h ⊢
  cases ho : ops[j]? with
  | none => rfl
  | some o =>
    simp only [ho] at h ⊢
    cases hw : wantedA ops E o with
    | none => rfl
    | some b =>
      cases b with
      | false => rfl
      | true =>
        simp only [hw] at h ⊢
        cases hr : resOp P o.op with
        | none => rfl
        | some x =>
          obtain ⟨k, xs⟩ := x
          simp only [hr] at h ⊢
          cases k with
          | prim r => rfl
          | clos => rfl
          | call f =>
            simp only at h ⊢
            split
            · rfl
            · rename_i hf
              simp only [hf] at h
              have := touchL_congr (args := xs.map (aval E)) (st := st) (st2 := st2) fun b hb => content_of (h _ rfl b hb)
              rw [this]
            · rfl

theorem fpS_local {call : CallF} (hc : CallPure M call) {ops : Array Oper} {b j : Nat} {oj : Oper} (hj : ops[j]? = some oj) {E : Env} {st : Store} (hw : wantedA ops E oj = some true) {x : List Nat × List Nat} (hx : fpS P M ops (some b) j E st = .inl x) :
    LocalAt st x.1 x.2 fun st => exec1 P M (slotOf P ops (some b) j) (hidOf P ops (some b) j) call E st oj := by
  unfold fpS at hx
  simp only [hj, hw] at hx
  cases hr : resOp P oj.op with
  | none => simp [hr] at hx
  | some y =>
    obtain ⟨k, xs⟩ := y
    simp only [hr] at hx
    cases k with
    | prim r =>
      simp only [Sum.inl.injEq] at hx
      subst hx
      exact exec1_local (M := M) (call := call) hr E st
    | call f =>
      simp only at hx
      split at hx
      · cases hx
      · rename_i hf
        injection hx with hx; subst hx
        exact exec1_call1_local hc hr E st hf
      · rename_i h0 h1
        split at hx <;> try (cases hx; done)
        rename_i hp
        injection hx with hx; subst hx
        exact exec1_call_local hc hr E (fun h => h0 h) hp st
    | clos => simp at hx

theorem fpS_mask {call : CallF} {ops : Array Oper} {b j : Nat} {oj : Oper} (hj : ops[j]? = some oj) {E : Env} {st : Store} (hw : wantedA ops E oj = some true) {h : List Nat} (hx : fpS P M ops (some b) j E st = .inr h) :
    ∃ f, (fun st => exec1 P M (slotOf P ops (some b) j) (hidOf P ops (some b) j) call E st oj) = maskF h f := by
  have none_ : ∀ h : List Nat, (fun _ : Store => (none : Option (AV × Store))) = maskF h fun _ => none := fun h => by
    funext st
    cases h <;> rfl
  unfold fpS at hx
  simp only [hj, hw] at hx
  unfold exec1
  cases hr : resOp P oj.op with
  | none => exact ⟨_, none_ h⟩
  | some y =>
    obtain ⟨k, xs⟩ := y
    simp only [hr] at hx ⊢
    cases k with
    | prim r => simp at hx
    | call f =>
      simp only at hx ⊢
      have hnp : isPure (M f) (xs.map (aval E)) = false ∧ hidOf P ops (some b) j = h := by
        unfold isPure
        split at hx
        · rename_i h0
          injection hx with hx
          exact ⟨rfl, hx⟩
        · cases hx
        · rename_i h0 h1
          split at hx <;> try (cases hx; done)
          rename_i hp
          injection hx with hx
          refine ⟨?_, hx⟩
          simpa using hp
      obtain ⟨hnp, rfl⟩ := hnp
      refine ⟨call f (xs.map (aval E)), ?_⟩
      funext st
      simp only [hnp, Bool.false_eq_true, if_false]
      cases hidOf P ops (some b) j <;> rfl
    | clos =>
      injection hx with hx
      subst hx
      cases xs with
      | nil => exact ⟨_, none_ _⟩
      | cons x xs =>
        simp only
        split
        · rename_i f first cap _
          refine ⟨call f (first ++ xs.map (aval E) ++ cap), ?_⟩
          funext st
          cases hidOf P ops (some b) j <;> rfl
        · exact ⟨_, none_ _⟩

/-- Two operations that do not meddle with each other. -/
def PairOk (P : Program) (M : Nat → Nat) (tab : List ZP) (i j : Nat) (oi oj : Oper) : Prop :=
  okKinds (kindOf P M oi) (kindOf P M oj) = true ∨ okZ (tab.getD i z0) (tab.getD j z0) = true

mutual
theorem eqAV_spec : ∀ {a b : AV}, eqAV a b = true → a = b
  | .bool a, b, h => by cases b <;> simp [eqAV] at h; subst h; rfl
  | .int k a, b, h => by cases b <;> simp [eqAV] at h; obtain ⟨rfl, rfl⟩ := h; rfl
  | .str a, b, h => by cases b <;> simp [eqAV] at h; subst h; rfl
  | .nilp, b, h => by cases b <;> simp [eqAV] at h; rfl
  | .ptr .., b, h => by cases b <;> simp [eqAV] at h; obtain ⟨⟨rfl, rfl⟩, rfl⟩ := h; rfl
  | .vsl f xs, b, h => by
    cases b <;> simp [eqAV] at h
    obtain ⟨rfl, h⟩ := h
    rw [eqAVs_spec h]
  | .nils, b, h => by cases b <;> simp [eqAV] at h; rfl
  | .osl .., b, h => by cases b <;> simp [eqAV] at h; obtain ⟨⟨rfl, rfl⟩, rfl⟩ := h; rfl
  | .agg xs, b, h => by
    cases b <;> simp [eqAV] at h
    rw [eqAVs_spec h]
  | .nilf, b, h => by cases b <;> simp [eqAV] at h; rfl
  | .ifc t v, b, h => by
    cases b <;> simp [eqAV] at h
    obtain ⟨rfl, h⟩ := h
    rw [eqAV_spec h]
  | .nili, b, h => by cases b <;> simp [eqAV] at h; rfl
  | .opq, b, h => by cases b <;> simp [eqAV] at h; rfl
  | .flt .., b, h => by simp [eqAV] at h
  | .cpx .., b, h => by simp [eqAV] at h
  | .eptr .., b, h => by simp [eqAV] at h
  | .asl .., b, h => by simp [eqAV] at h
  | .tup .., b, h => by simp [eqAV] at h
  | .fn .., b, h => by simp [eqAV] at h
  | .unk, b, h => by simp [eqAV] at h
theorem eqAVs_spec : ∀ {a b : List AV}, eqAVs a b = true → a = b
  | [], b, h => by cases b <;> simp [eqAVs] at h; rfl
  | x :: xs, b, h => by
    cases b <;> simp [eqAVs] at h
    rw [eqAV_spec h.1, eqAVs_spec h.2]
end

theorem rLoad_ptr (st : Store) (n : Option Nat) (b i off : Nat) : rLoad st n [.ptr b i off] = (ldAt i off n st[b]?).map fun r => (r, st) := by
  simp only [rLoad, ldAt]
  split
  · rename_i e xs r h; simp only [h]; cases xs[i]? <;> rfl
  · rename_i h
    split
    · rename_i e xs r h2; exact absurd h2 (h _ _ _)
    · rfl

theorem stable_spec {K hid : List Nat} {st st2 : Store} {l : LdI} (h : stable l (recOf K hid st st2) = true) : ∃ v, ldAt l.2.1 l.2.2.1 l.2.2.2 st[l.1]? = some v ∧ ldAt l.2.1 l.2.2.1 l.2.2.2 st2[l.1]? = some v := by
  simp only [stable, recOf, List.any_map, List.any_eq_true, List.mem_filter, Function.comp, Bool.and_eq_true] at h
  obtain ⟨b, _, h1, h2⟩ := h
  have h1 : b = l.1 := by simpa using h1
  subst h1
  split at h2
  · rename_i v v' g1 g2
    have := eqAV_spec h2
    subst this
    exact ⟨v, g1, g2⟩
  · cases h2

theorem ldInfo_spec {ops : Array Oper} {i : Nat} {oi : Oper} (hi : ops[i]? = some oi) {E : Env} {l : LdI} (h : ldInfo P ops i E = some l) : ∃ xs, resOp P oi.op = some (.prim (.load l.2.2.2), xs) ∧ xs.map (aval E) = [.ptr l.1 l.2.1 l.2.2.1] := by
  unfold ldInfo at h
  simp only [hi] at h
  split at h <;> try (cases h; done)
  split at h <;> try (cases h; done)
  rename_i n xs hr
  split at h <;> try (cases h; done)
  rename_i b k off hx
  injection h with h; subst h
  exact ⟨xs, hr, hx⟩

theorem ldInfo_put {ops : Array Oper} {j : Nat} {oj : Oper} (hj : ops[j]? = some oj) {E : Env} {dst : Option Tmp} {v : AV} (h : ∀ d, dst = some d → d ∉ oj.looksAt ops) : ldInfo P ops j (E.put dst v) = ldInfo P ops j E := by
  unfold ldInfo
  simp only [hj, wantedA_put h]
  cases hr : resOp P oj.op with
  | none => rfl
  | some x =>
    obtain ⟨k, xs⟩ := x
    have := map_aval_put (P := P) (E := E) (v := v) h hr
    cases k with
    | prim r =>
      cases r with
      | load n => simp only [this]
      | _ => rfl
    | _ => rfl

theorem afterA_put {base : Option Nat} {call : CallF} {ops : Array Oper} {j : Nat} {oj : Oper} (hj : ops[j]? = some oj) {E : Env} {dst : Option Tmp} {v : AV} (h : ∀ d, dst = some d → d ∉ oj.looksAt ops) (st : Store) :
    afterA P M base call ops j (E.put dst v) st = afterA P M base call ops j E st := by
  unfold afterA
  simp only [hj, exec1_put h]

theorem fpX_put {K : List Nat} {base : Option Nat} {call : CallF} {ops : Array Oper} {j : Nat} {oj : Oper} (hj : ops[j]? = some oj) {E : Env} {dst : Option Tmp} {v : AV} (h : ∀ d, dst = some d → d ∉ oj.looksAt ops) (st : Store) :
    fpX P M K base call ops j (E.put dst v) st = fpX P M K base call ops j E st := by
  unfold fpX
  rw [fpS_put hj h, ldInfo_put hj h, afterA_put hj h]

theorem recOf_congr {K hid : List Nat} {st st2 su su2 : Store} (h : ∀ c, c ∉ hid → st2[c]? = st[c]? ∧ su2[c]? = su[c]?) : recOf K hid st2 su2 = recOf K hid st su := by
  unfold recOf
  apply List.map_congr_left
  intro b hb
  simp only [List.mem_filter, Bool.not_eq_true', List.contains_eq_mem, decide_eq_false_iff_not] at hb
  obtain ⟨h1, h2⟩ := h b hb.2
  rw [h1, h2]

theorem fpX_eq {K : List Nat} {base : Option Nat} {call : CallF} {ops : Array Oper} {j : Nat} {oj : Oper} (hj : ops[j]? = some oj) {E : Env} {st st2 su su2 : Store} {u : AV} (hf : fpS P M ops base j E st2 = fpS P M ops base j E st)
    (h1 : exec1 P M (slotOf P ops base j) (hidOf P ops base j) call E st oj = some (u, su)) (h2 : exec1 P M (slotOf P ops base j) (hidOf P ops base j) call E st2 oj = some (u, su2))
    (h : ∀ hid, fpS P M ops base j E st = .inr hid → ∀ c, c ∉ hid → st2[c]? = st[c]? ∧ su2[c]? = su[c]?) : fpX P M K base call ops j E st2 = fpX P M K base call ops j E st := by
  unfold fpX
  rw [hf]
  cases hx : fpS P M ops base j E st with
  | inl x => rfl
  | inr hid =>
    simp only [afterA, hj, h1, h2]
    rw [recOf_congr (h hid hx)]

theorem prim_inl {base : Option Nat} {ops : Array Oper} {k : Nat} {o : Oper} (ho : ops[k]? = some o) (hk : kindOf P M o < 4) (E : Env) (x : Store) : (∃ y, fpS P M ops base k E x = .inl y) ∧ ∀ y, fpS P M ops base k E y = fpS P M ops base k E x := by
  unfold fpS
  simp only [ho]
  unfold kindOf at hk
  cases hw : wantedA ops E o with
  | none => exact ⟨⟨_, rfl⟩, fun _ => rfl⟩
  | some b =>
    cases b with
    | false => exact ⟨⟨_, rfl⟩, fun _ => rfl⟩
    | true =>
      cases hr : resOp P o.op with
      | none => simp [hr] at hk
      | some z =>
        obtain ⟨kd, xs⟩ := z
        cases kd with
        | prim r => exact ⟨⟨_, rfl⟩, fun _ => rfl⟩
        | call f => simp [hr] at hk
        | clos => simp [hr] at hk

/-- Two executions change places. -/
def Swap (P : Program) (M : Nat → Nat) (b : Nat) (call : CallF) (ops : Array Oper) (i j : Nat) (oi oj : Oper) (E : Env) (st sv su : Store) (v u : AV) : Prop :=
  fpS P M ops (some b) j E st = fpS P M ops (some b) j E sv ∧ ∃ s3, exec1 P M (slotOf P ops (some b) j) (hidOf P ops (some b) j) call E st oj = some (u, s3) ∧
    exec1 P M (slotOf P ops (some b) i) (hidOf P ops (some b) i) call E s3 oi = some (v, su) ∧ fpS P M ops (some b) i E s3 = fpS P M ops (some b) i E st ∧
    (∀ hid, fpS P M ops (some b) j E sv = .inr hid → ∀ c, c ∉ hid → st[c]? = sv[c]? ∧ s3[c]? = su[c]?) ∧ (∀ hid, fpS P M ops (some b) i E st = .inr hid → ∀ c, c ∉ hid → s3[c]? = st[c]? ∧ su[c]? = sv[c]?)

theorem exec_swap {call : CallF} (hc : CallPure M call) {K : List Nat} {b : Nat} {ops : Array Oper} {i j : Nat} {oi oj : Oper} (hi : ops[i]? = some oi) (hj : ops[j]? = some oj) {E : Env} {st sv su : Store} {v u : AV}
    (hwi : wantedA ops E oi = some true) (hwj : wantedA ops E oj = some true)
    (hv : exec1 P M (slotOf P ops (some b) i) (hidOf P ops (some b) i) call E st oi = some (v, sv)) (hu : exec1 P M (slotOf P ops (some b) j) (hidOf P ops (some b) j) call E sv oj = some (u, su))
    (hk : okKinds (kindOf P M oi) (kindOf P M oj) = true ∨ okFp (fpS P M ops (some b) i E st) (fpS P M ops (some b) j E sv) = true ∨ okX (fpX P M K (some b) call ops i E st) (fpX P M K (some b) call ops j E sv) = true) :
    Swap P M b call ops i j oi oj E st sv su v u := by
  have out : ∀ {l : List (Nat × Blk)} {h : List Nat} {c : Nat} (st : Store), (∀ p ∈ l, p.1 ∈ h) → c ∉ h → (applyU l st)[c]? = st[c]? := fun st h1 h2 => applyU_get (fun p hp he => h2 (by rw [← he]; exact h1 p hp)) st
  rcases hk with hk | k3 | k4
  · simp only [okKinds, Bool.or_eq_true, beq_iff_eq, Bool.and_eq_true] at hk
    rcases hk with (h | h) | hi1
    · obtain ⟨s1, s2⟩ := exec1_still0 (P := P) (b := b + rankA P ops i) h E st v sv hv
      have s1 : sv = st := s1
      subst s1
      obtain ⟨⟨y, hy⟩, hp⟩ := prim_inl (P := P) (M := M) (base := some b) hi (by omega) E sv
      exact ⟨rfl, su, hu, s2 su, hp su, fun _ _ _ _ => ⟨rfl, rfl⟩, fun hid hh => by rw [hy] at hh; cases hh⟩
    · obtain ⟨s1, s2⟩ := exec1_still0 (P := P) (b := b + rankA P ops j) h E sv u su hu
      have s1 : su = sv := s1
      obtain ⟨⟨y, hy⟩, hp⟩ := prim_inl (P := P) (M := M) (base := some b) hj (by omega) E sv
      exact ⟨hp st, st, s2 st, by rw [s1]; exact hv, rfl, (fun hid hh => by rw [hy] at hh; cases hh), fun _ _ _ _ => ⟨rfl, by rw [s1]⟩⟩
    · have s1 : sv = st := exec1_still1 hi1.1 hv
      subst s1
      have s2 : su = sv := exec1_still1 hi1.2 hu
      subst s2
      exact ⟨rfl, su, hu, hv, rfl, fun _ _ _ _ => ⟨rfl, rfl⟩, fun _ _ _ _ => ⟨rfl, rfl⟩⟩
  · cases hx : fpS P M ops (some b) i E st with
    | inr hi' =>
      obtain ⟨f, hfe⟩ := fpS_mask (call := call) hi hwi hx
      cases hy : fpS P M ops (some b) j E sv with
      | inr hj' => simp [hx, hy, okFp] at k3
      | inl y =>
        rw [hx, hy] at k3
        have hin : inFp y hi' = true := k3
        obtain ⟨i1, i2⟩ := inFp_spec hin
        obtain ⟨m1, s3, m2, m3⟩ := mask_left (hid := hi') (f := f) (by rw [← hfe]; exact hv) (fpS_local hc hj hwj hy) hin hu
        have fj : fpS P M ops (some b) j E st = .inl y := by
          rw [← hy]
          refine fpS_store fun z hz b hb => ?_
          rw [hy] at hz
          injection hz with hz
          subst hz
          exact m1 b hb
        obtain ⟨u1, k1, es1, _⟩ := fpS_local hc hj hwj hy u su hu
        obtain ⟨u2, k2, es2, _⟩ := fpS_local hc hj hwj fj u s3 m2
        refine ⟨by rw [fj, hy], s3, m2, by rw [← hfe] at m3; exact m3, ?_, (fun hid hh => by rw [hy] at hh; cases hh), fun hid hh c hcn => ?_⟩
        · refine fpS_store fun z hz b hb => ?_
          rw [hx] at hz
          cases hz
        · rw [hx] at hh
          injection hh with hh
          subst hh
          rw [es1, es2]
          exact ⟨out st (fun p hp => i2 _ (k2 p hp)) hcn, out sv (fun p hp => i2 _ (k1 p hp)) hcn⟩
    | inl x =>
      have lx := fpS_local hc hi hwi hx
      cases hy : fpS P M ops (some b) j E sv with
      | inr hj' =>
        obtain ⟨g, hge⟩ := fpS_mask (call := call) hj hwj hy
        rw [hx, hy] at k3
        have hin : inFp x hj' = true := k3
        obtain ⟨i1, i2⟩ := inFp_spec hin
        obtain ⟨s3, m1, m2, m3⟩ := mask_right (hid := hj') (g := g) lx hin hv (by rw [← hge]; exact hu)
        have fi : fpS P M ops (some b) i E s3 = .inl x := by
          rw [← hx]
          refine fpS_store fun z hz b hb => ?_
          rw [hx] at hz
          injection hz with hz
          subst hz
          exact m3 b hb
        obtain ⟨u1, k1, es1, _⟩ := lx v sv hv
        obtain ⟨u2, k2, es2, _⟩ := fpS_local hc hi hwi fi v su m2
        refine ⟨?_, s3, by rw [← hge] at m1; exact m1, m2, by rw [fi, hx], fun hid hh c hcn => ?_, fun hid hh => by rw [hx] at hh; cases hh⟩
        · refine fpS_store fun z hz b hb => ?_
          rw [hy] at hz
          cases hz
        · rw [hy] at hh
          injection hh with hh
          subst hh
          rw [es1, es2]
          exact ⟨(out st (fun p hp => i2 _ (k1 p hp)) hcn).symm, (out s3 (fun p hp => i2 _ (k2 p hp)) hcn).symm⟩
      | inl y =>
        rw [hx, hy] at k3
        have ly := fpS_local hc hj hwj hy
        obtain ⟨u1, k1, es, _⟩ := lx v sv hv
        have hd := k3
        simp only [okFp, Bool.and_eq_true] at hd
        obtain ⟨⟨d1, d2⟩, d3⟩ := hd
        have fj : fpS P M ops (some b) j E st = .inl y := by
          rw [← hy]
          refine fpS_store fun z hz c hc' => ?_
          rw [hy] at hz
          injection hz with hz
          subst hz
          rw [es]
          exact (applyU_get (fun p hp he => disj_spec d1 (k1 p hp) (he ▸ hc')) st).symm
        obtain ⟨s3, c1, c2⟩ := lx.comm ly k3 hv hu
        refine ⟨by rw [fj, hy], s3, c1, c2, ?_, (fun hid hh => by rw [hy] at hh; cases hh), fun hid hh => by rw [hx] at hh; cases hh⟩
        obtain ⟨u2, k2, es2, _⟩ := (fpS_local hc hj hwj fj) u s3 c1
        refine fpS_store fun z hz c hc' => ?_
        rw [hx] at hz
        injection hz with hz
        subst hz
        rw [es2]
        exact applyU_get (fun p hp he => disj_spec d3 (k2 p hp) (he ▸ hc')) st
  · -- a load, and a call that leaves what it looks at
    have load : ∀ {k : Nat} {o : Oper} {E : Env} {l : LdI}, ops[k]? = some o → ldInfo P ops k E = some l → ∀ st, exec1 P M (slotOf P ops (some b) k) (hidOf P ops (some b) k) call E st o = (ldAt l.2.1 l.2.2.1 l.2.2.2 st[l.1]?).map fun r => (r, st) := fun ho hl st => by
      obtain ⟨xs, hr, hxs⟩ := ldInfo_spec ho hl
      rw [← rLoad_ptr]
      unfold exec1
      simp only [hr, hxs, okQ, Bool.not_true, Bool.and_false, Bool.false_eq_true, if_false, rop]
    have prim : ∀ {k : Nat} {o : Oper} {E : Env} {l : LdI}, ops[k]? = some o → ldInfo P ops k E = some l → kindOf P M o < 4 := fun ho hl => by
      obtain ⟨xs, hr, hxs⟩ := ldInfo_spec ho hl
      simp [kindOf, hr, primKind]
    cases hx : fpS P M ops (some b) i E st with
    | inl x =>
      cases hy : fpS P M ops (some b) j E sv with
      | inl y =>
        simp only [fpX, hx, hy] at k4
        cases h1 : ldInfo P ops i E <;> cases h2 : ldInfo P ops j E <;> simp [h1, h2, okX] at k4
      | inr hj' =>
        simp only [fpX, hx, hy] at k4
        cases hl : ldInfo P ops i E with
        | none => simp [hl, okX] at k4
        | some l =>
          simp only [hl, Option.map_some, okX] at k4
          have ha : afterA P M (some b) call ops j E sv = su := by simp only [afterA, hj, hu]
          rw [ha] at k4
          obtain ⟨w, g1, g2⟩ := stable_spec k4
          have hv' := hv
          rw [load hi hl] at hv'
          simp only [Option.map_eq_some_iff, Prod.mk.injEq] at hv'
          obtain ⟨v', g3, rfl, rfl⟩ := hv'
          obtain rfl : w = v' := Option.some.inj (g1.symm.trans g3)
          have hp := (prim_inl (P := P) (M := M) (base := some b) hi (prim hi hl) E st).2
          exact ⟨rfl, su, hu, by rw [load hi hl, g2]; rfl, by rw [hp], fun _ _ _ _ => ⟨rfl, rfl⟩, fun hid hh => by rw [hx] at hh; cases hh⟩
    | inr hi' =>
      cases hy : fpS P M ops (some b) j E sv with
      | inr hj' => simp [fpX, hx, hy, okX] at k4
      | inl y =>
        simp only [fpX, hx, hy] at k4
        cases hl : ldInfo P ops j E with
        | none => simp [hl, okX] at k4
        | some l =>
          simp only [hl, Option.map_some, okX] at k4
          have ha : afterA P M (some b) call ops i E st = sv := by simp only [afterA, hi, hv]
          rw [ha] at k4
          obtain ⟨w, g1, g2⟩ := stable_spec k4
          have hu' := hu
          rw [load hj hl] at hu'
          simp only [Option.map_eq_some_iff, Prod.mk.injEq] at hu'
          obtain ⟨u', g3, rfl, rfl⟩ := hu'
          obtain rfl : w = u' := Option.some.inj (g2.symm.trans g3)
          have hp := (prim_inl (P := P) (M := M) (base := some b) hj (prim hj hl) E sv).2
          exact ⟨by rw [hp], st, by rw [load hj hl, g1]; rfl, hv, rfl, (fun hid hh => by rw [hy] at hh; cases hh), fun _ _ _ _ => ⟨rfl, rfl⟩⟩

theorem step_comm {call : CallF} (hc : CallPure M call) {K : List Nat} {b : Nat} {tab : List ZP} {ops : Array Oper} {i j : Nat} {oi oj : Oper} (hi : ops[i]? = some oi) (hj : ops[j]? = some oj) (hap : oi.apart ops oj = true) (hk : PairOk P M tab i j oi oj)
    {S Si R : Env × Store} (t1 : fpZ P M K (some b) call ops i S.1 S.2 = tab.getD i z0) (t2 : fpZ P M K (some b) call ops j Si.1 Si.2 = tab.getD j z0)
    (h1 : stepA P M (some b) call ops i S = some Si) (h2 : stepA P M (some b) call ops j Si = some R) :
    fpZ P M K (some b) call ops j S.1 S.2 = tab.getD j z0 ∧ ∃ Sj, stepA P M (some b) call ops j S = some Sj ∧ stepA P M (some b) call ops i Sj = some R ∧ fpZ P M K (some b) call ops i Sj.1 Sj.2 = tab.getD i z0 := by
  obtain ⟨a1, a2, a3⟩ := Oper.apart_spec hap
  obtain ⟨E, st⟩ := S
  have e1 : ∀ v, wantedA ops (E.put oi.dst v) oj = wantedA ops E oj := fun v => wantedA_put a1
  have e2 : ∀ v st, exec1 P M (slotOf P ops (some b) j) (hidOf P ops (some b) j) call (E.put oi.dst v) st oj = exec1 P M (slotOf P ops (some b) j) (hidOf P ops (some b) j) call E st oj := fun v st => exec1_put a1
  have e3 : ∀ v, wantedA ops (E.put oj.dst v) oi = wantedA ops E oi := fun v => wantedA_put a3
  have e4 : ∀ v st, exec1 P M (slotOf P ops (some b) i) (hidOf P ops (some b) i) call (E.put oj.dst v) st oi = exec1 P M (slotOf P ops (some b) i) (hidOf P ops (some b) i) call E st oi := fun v st => exec1_put a3
  have e5 : ∀ v st, fpZ P M K (some b) call ops j (E.put oi.dst v) st = fpZ P M K (some b) call ops j E st := fun v st => by unfold fpZ; rw [fpS_put hj a1 st, fpX_put hj a1 st]
  have e6 : ∀ v st, fpZ P M K (some b) call ops i (E.put oj.dst v) st = fpZ P M K (some b) call ops i E st := fun v st => by unfold fpZ; rw [fpS_put hi a3 st, fpX_put hi a3 st]
  have hcomm : ∀ v u, (E.put oi.dst v).put oj.dst u = (E.put oj.dst u).put oi.dst v := fun v u => put_comm a2
  have hnoneX : ∀ (k : Nat) (o : Oper) (st : Store), ops[k]? = some o → wantedA ops E o = some false → fpZ P M K (some b) call ops k E st = z0 := fun k o st ho hw => by
    have h1 : fpS P M ops (some b) k E st = fp0 := by unfold fpS; simp only [ho, hw]
    have h2 : ldInfo P ops k E = none := by unfold ldInfo; simp only [ho, hw]
    unfold fpZ fpX
    rw [h1, h2]
    rfl
  simp only at t1
  unfold stepA at h1 h2 ⊢
  simp only [hi] at h1 ⊢
  simp only [hj] at h2 ⊢
  cases hwi : wantedA ops E oi with
  | none => simp [hwi] at h1
  | some bi =>
    cases bi with
    | false =>
      simp only [hwi, Option.some.injEq] at h1
      subst h1
      simp only [e5] at t2
      simp only [e1, e2] at h2
      cases hwj : wantedA ops E oj with
      | none => simp [hwj] at h2
      | some bj =>
        cases bj with
        | false =>
          simp only [hwj, Option.some.injEq] at h2
          subst h2
          exact ⟨t2, (E.put oj.dst undefA, st), rfl, by simp only [e3, hwi, hcomm], by rw [e6]; exact t1⟩
        | true =>
          simp only [hwj, Option.map_eq_some_iff] at h2
          obtain ⟨⟨u, su⟩, hu, rfl⟩ := h2
          refine ⟨t2, (E.put oj.dst u, su), by simp [hu], by simp only [e3, hwi, hcomm], ?_⟩
          -- nothing was done at i: it meets nothing
          rw [e6, hnoneX i oi _ hi hwi, ← t1, hnoneX i oi _ hi hwi]
    | true =>
      simp only [hwi, Option.map_eq_some_iff] at h1
      obtain ⟨⟨v, sv⟩, hv, rfl⟩ := h1
      simp only [e5] at t2
      simp only [e1, e2] at h2
      cases hwj : wantedA ops E oj with
      | none => simp [hwj] at h2
      | some bj =>
        cases bj with
        | false =>
          simp only [hwj, Option.some.injEq] at h2
          subst h2
          exact ⟨by rw [hnoneX j oj _ hj hwj, ← t2, hnoneX j oj _ hj hwj], (E.put oj.dst undefA, st), rfl, by simp only [e3, e4, hwi, hv, hcomm, Option.map_some], by rw [e6]; exact t1⟩
        | true =>
          simp only [hwj, Option.map_eq_some_iff] at h2
          obtain ⟨⟨u, su⟩, hu, rfl⟩ := h2
          have hk' : okKinds (kindOf P M oi) (kindOf P M oj) = true ∨ okFp (fpS P M ops (some b) i E st) (fpS P M ops (some b) j E sv) = true ∨ okX (fpX P M K (some b) call ops i E st) (fpX P M K (some b) call ops j E sv) = true := by
            rcases hk with hk | hk
            · exact .inl hk
            · rw [← t1, ← t2] at hk
              simp only [okZ, Bool.or_eq_true] at hk
              exact .inr hk
          obtain ⟨key0, s3, key1, key2, key3, kj, ki⟩ := exec_swap hc hi hj hwi hwj hv hu hk'
          have xj : fpX P M K (some b) call ops j E st = fpX P M K (some b) call ops j E sv := fpX_eq hj key0 hu key1 kj
          have xi : fpX P M K (some b) call ops i E s3 = fpX P M K (some b) call ops i E st := fpX_eq hi key3 hv key2 ki
          refine ⟨by rw [← t2]; unfold fpZ; rw [key0, xj], (E.put oj.dst u, s3), by simp only [key1, Option.map_some], ?_, by rw [e6, ← t1]; unfold fpZ; rw [key3, xi]⟩
          simp only [e3, e4, hwi, key2, hcomm, Option.map_some]

/-- Whatever is picked next: it can be done, and in the end there is this. -/
def anyA (P : Program) (M : Nat → Nat) (K : List Nat) (b : Nat) (tab : List ZP) (call : CallF) (ops : Array Oper) (R : Env × Store) : Nat → Array Bool → Env × Store → Prop
  | 0, listed, S => Region.ready .any ops listed = [] ∧ S = R
  | fuel + 1, listed, S =>
    (Region.ready .any ops listed = [] → S = R) ∧
    ∀ i ∈ Region.ready .any ops listed, fpZ P M K (some b) call ops i S.1 S.2 = tab.getD i z0 ∧ ∃ S', stepA P M (some b) call ops i S = some S' ∧ anyA P M K b tab call ops R fuel (listed.setIfInBounds i true) S'

/-- What is listed, has what it waits for listed. -/
def Closed (ops : Array Oper) (listed : Array Bool) : Prop := ∀ k o, ops[k]? = some o → listed.getD k false = true → ∀ e ∈ o.after, Region.binds .any e = true → listed.getD e.on false = true

theorem Closed.step {ops : Array Oper} {listed : Array Bool} (h : Closed ops listed) {i : Nat} (hi : i ∈ Region.ready .any ops listed) : Closed ops (listed.setIfInBounds i true) := by
  intro k o ho hk e he hb
  refine getD_set_true ?_
  by_cases hki : k = i
  · subst hki
    obtain ⟨_, o', ho', hall⟩ := mem_ready.1 hi
    obtain rfl : o' = o := Option.some.inj (ho'.symm.trans ho)
    exact hall e he hb
  · rw [getD_set_ne false (Ne.symm hki)] at hk
    exact h k o ho hk e he hb

theorem mask_bits {listed : Array Bool} {acc : List Nat} (hacc : ∀ e i, listed.getD e false = true → (acc.getD e 0).testBit i = true → listed.getD i false = true) :
    ∀ (l : List Edge) (s : Nat), (∀ e ∈ l, Region.binds .any e = true → listed.getD e.on false = true) → (∀ i, s.testBit i = true → listed.getD i false = true) →
      ∀ i, (l.foldl (fun s e => if Region.binds .any e then s ||| 2 ^ e.on ||| acc.getD e.on 0 else s) s).testBit i = true → listed.getD i false = true
  | [], s, _, hs, i, h => hs i h
  | e :: l, s, hl, hs, i, h => by
    refine mask_bits hacc l _ (fun e he => hl e (List.mem_cons_of_mem _ he)) (fun i hi => ?_) i h
    simp only at hi
    split at hi
    · rename_i hb
      have hon := hl e (List.mem_cons_self ..) hb
      simp only [Nat.testBit_or, Bool.or_eq_true, Nat.testBit_two_pow, decide_eq_true_eq] at hi
      rcases hi with (hi | hi) | hi
      · exact hs i hi
      · exact hi ▸ hon
      · exact hacc _ _ hon hi
    · exact hs i hi

theorem masks_spec {ops : Array Oper} {listed : Array Bool} (hcl : Closed ops listed) : ∀ (l : List Oper) (acc : List Nat), acc.length + l.length = ops.size → (∀ k, k < l.length → ops[acc.length + k]? = l[k]?) →
    (∀ k o, k < acc.length → ops[k]? = some o → (∀ e ∈ o.after, Region.binds .any e = true → listed.getD e.on false = true) → ∀ i, (acc.getD k 0).testBit i = true → listed.getD i false = true) →
    ∀ k o, ops[k]? = some o → (∀ e ∈ o.after, Region.binds .any e = true → listed.getD e.on false = true) → ∀ i, ((masks l acc).getD k 0).testBit i = true → listed.getD i false = true
  | [], acc, hlen, _, hacc, k, o, ho, hp, i, h => by
    simp only [masks] at h
    have : k < ops.size := (Array.getElem?_eq_some_iff.1 ho).1
    exact hacc k o (by simp at hlen; omega) ho hp i h
  | p :: l, acc, hlen, hops, hacc, k, o, ho, hp, i, h => by
    simp only [masks] at h
    refine masks_spec hcl l (acc ++ [maskOf acc p]) (by simp at hlen ⊢; omega) (fun k hk => ?_) (fun k o hk ho hp i h => ?_) k o ho hp i h
    · have := hops (k + 1) (by simpa using hk)
      simp only [List.length_append, List.length_singleton]
      rw [show acc.length + 1 + k = acc.length + (k + 1) from by omega, this]
      simp
    · simp at hk
      rcases Nat.lt_or_ge k acc.length with hlt | hge
      · have e : (acc ++ [maskOf acc p]).getD k 0 = acc.getD k 0 := by simp [List.getD, List.getElem?_append_left hlt]
        rw [e] at h
        exact hacc k o hlt ho hp i h
      · have hk' : k = acc.length := by omega
        subst hk'
        have e : (acc ++ [maskOf acc p]).getD acc.length 0 = maskOf acc p := by simp [List.getD]
        rw [e] at h
        have h0 := hops 0 (by simp)
        simp at h0
        rw [h0] at ho
        obtain rfl : p = o := Option.some.inj ho
        unfold maskOf at h
        refine mask_bits (listed := listed) (acc := acc) (fun e i he hbit => ?_) p.after.toList 0 (fun e he hb => hp e (by simpa using he) hb) (fun i hi => by simp at hi) i h
        rcases Nat.lt_or_ge e acc.length with hea | hea
        · have hlt : e < ops.size := by simp at hlen; omega
          have hoe : ops[e]? = some ops[e] := by simp [hlt]
          exact hacc e _ hea hoe (fun e' he' hb' => hcl e _ hoe he e' he' hb') i hbit
        · simp [List.getD, List.getElem?_eq_none hea] at hbit

theorem masks_ready {ops : Array Oper} {listed : Array Bool} (hcl : Closed ops listed) {j i : Nat} (hj : j ∈ Region.ready .any ops listed) (hb : ((masks ops.toList []).getD j 0).testBit i = true) : listed.getD i false = true := by
  obtain ⟨_, o, ho, hall⟩ := mem_ready.1 hj
  exact masks_spec hcl ops.toList [] (by simp) (fun k hk => by simp) (fun k o hk => by simp at hk) j o ho hall i hb

theorem anyA_first {call : CallF} (hc : CallPure M call) {K : List Nat} {b : Nat} {tab : List ZP} {ops : Array Oper} {R : Env × Store} {i : Nat} {oi : Oper} (hi : ops[i]? = some oi) :
    ∀ (fuel : Nat) (listed : Array Bool) (S Si : Env × Store), Closed ops listed →
      (∀ j oj, ops[j]? = some oj → j ≠ i → listed.getD j true = false → ((masks ops.toList []).getD j 0).testBit i = false → oi.apart ops oj = true ∧ PairOk P M tab i j oi oj) →
      i ∈ Region.ready .any ops listed → fpZ P M K (some b) call ops i S.1 S.2 = tab.getD i z0 → stepA P M (some b) call ops i S = some Si → anyA P M K b tab call ops R fuel (listed.setIfInBounds i true) Si → anyA P M K b tab call ops R (fuel + 1) listed S := by
  intro fuel
  induction fuel with
  | zero =>
    intro listed S Si _ _ hr ht hs H
    refine ⟨fun h => (by rw [h] at hr; cases hr), fun j hj => ?_⟩
    by_cases hji : j = i
    · subst hji; exact ⟨ht, Si, hs, H⟩
    · have := ready_mono hj hji
      rw [H.1] at this
      cases this
  | succ fuel ih =>
    intro listed S Si hcl hfree hr ht hs H
    refine ⟨fun h => (by rw [h] at hr; cases hr), fun j hj => ?_⟩
    by_cases hji : j = i
    · subst hji; exact ⟨ht, Si, hs, H⟩
    · obtain ⟨htj, Sij, hsj, h1⟩ := H.2 j (ready_mono hj hji)
      obtain ⟨hjun, oj, hoj, hall⟩ := mem_ready.1 hj
      have hnot : ((masks ops.toList []).getD j 0).testBit i = false := by
        cases hb : ((masks ops.toList []).getD j 0).testBit i with
        | false => rfl
        | true =>
          have h1 := masks_ready hcl hj hb
          have h0 := (mem_ready.1 hr).1
          exfalso
          rcases Nat.lt_or_ge i listed.size with h' | h'
          · simp [h'] at h0 h1; rw [h0] at h1; cases h1
          · simp [Array.getElem?_eq_none h'] at h1
      obtain ⟨hap, hkp⟩ := hfree j oj hoj hji hjun hnot
      obtain ⟨g0, Sj, g1, g2, g3⟩ := step_comm hc hi hoj hap hkp ht htj hs hsj
      have hfree' : ∀ k ok, ops[k]? = some ok → k ≠ i → (listed.setIfInBounds j true).getD k true = false →
          ((masks ops.toList []).getD k 0).testBit i = false → oi.apart ops ok = true ∧ PairOk P M tab i k oi ok := fun k ok hk hki hun hno => by
        refine hfree k ok hk hki ?_ hno
        by_cases hjk : j = k
        · subst hjk; exact hjun
        · rw [getD_set_ne true hjk] at hun; exact hun
      refine ⟨g0, Sj, g1, ih (listed.setIfInBounds j true) Sj Sij (hcl.step hj) hfree' (ready_mono hr (Ne.symm hji)) g3 g2 ?_⟩
      rw [Array.setIfInBounds_comm _ _ hji]
      exact h1

theorem pairs_spec {ops : Array Oper} {mk : List Nat} {listed : Array Bool} {i : Nat} {oi : Oper} {l : List (Nat × Nat)} (hi : ops[i]? = some oi) (h : pairsOf P M ops mk listed i = some l) {tab : List ZP} (hl : chkOk tab l = true) (j : Nat) (oj : Oper)
    (hj : ops[j]? = some oj) (hne : j ≠ i) (hun : listed.getD j true = false) (hno : (mk.getD j 0).testBit i = false) : oi.apart ops oj = true ∧ PairOk P M tab i j oi oj := by
  unfold pairsOf at h
  simp only [hi] at h
  have hlt : j < ops.size := (Array.getElem?_eq_some_iff.1 hj).1
  have key : ∀ (L : List Nat) (l : List (Nat × Nat)), j ∈ L → L.foldr (fun j acc => acc.bind fun l =>
      if j == i || listed.getD j true then some l else match ops[j]? with
        | none => some l
        | some oj => if (mk.getD j 0).testBit i then some l
          else if oi.apart ops oj then
            if okKinds (kindOf P M oi) (kindOf P M oj) then some l else some ((i, j) :: l)
          else none) (some []) = some l → chkOk tab l = true → oi.apart ops oj = true ∧ PairOk P M tab i j oi oj := by
    intro L
    induction L with
    | nil => intro l hm; cases hm
    | cons k L ih =>
      intro l hm h hl
      simp only [List.foldr_cons, Option.bind_eq_some_iff] at h
      obtain ⟨l', h', h⟩ := h
      have hsub : chkOk tab l' = true := by
        repeat' split at h
        all_goals first
          | (injection h with h; subst h; exact hl)
          | (cases h; done)
          | (injection h with h; subst h; simp only [chkOk, List.all_cons, Bool.and_eq_true] at hl; exact hl.2)
      rcases List.mem_cons.1 hm with rfl | hm
      · rw [if_neg (by simp [hne]; simpa using hun)] at h
        simp only [hj, hno, Bool.false_eq_true, if_false] at h
        split at h <;> try (cases h; done)
        rename_i hap
        refine ⟨hap, ?_⟩
        split at h
        · rename_i hok; exact .inl hok
        · injection h with h
          subst h
          simp only [chkOk, List.all_cons, Bool.and_eq_true] at hl
          exact .inr hl.1
      · exact ih l' hm h' hsub
  exact key (List.range ops.size) l (List.mem_range.2 hlt) h hl

theorem anyA_lex {call : CallF} (hc : CallPure M call) {K : List Nat} {b : Nat} {tab : List ZP} {ops : Array Oper} {R : Env × Store} : ∀ (n k : Nat) (listed : Array Bool) (S : Env × Store) (l : List (Nat × Nat)), k + n = ops.size → Closed ops listed → lexA P M ops (masks ops.toList []) n k listed = some l → chkOk tab l = true →
    (∀ m, m < n → tab.getD (k + m) z0 = (tabL P M K (some b) call ops (List.range' k n) S).getD m z0) → runL P M (some b) call ops (List.range' k n) S = some R → anyA P M K b tab call ops R n listed S
  | 0, k, listed, S, l, _, _, hB, _, _, h => by
    simp [runL] at h
    simp only [lexA] at hB
    split at hB
    · rename_i he; exact ⟨by simpa using he, h⟩
    · cases hB
  | n + 1, k, listed, S, l, hn, hcl, hB, hl, ht, h => by
    simp only [lexA] at hB
    split at hB <;> try (cases hB; done)
    rename_i hr
    simp only [Option.bind_eq_some_iff, Option.map_eq_some_iff] at hB
    obtain ⟨la, hla, lb, hlb, rfl⟩ := hB
    simp only [chkOk, List.all_append, Bool.and_eq_true] at hl
    simp only [List.range'_succ, runL, Option.bind_eq_some_iff] at h
    obtain ⟨S1, h1, h2⟩ := h
    have hk : k < ops.size := by omega
    have h0 : ops[k]? = some ops[k] := by simp [hk]
    have hr' : k ∈ Region.ready .any ops listed := by simpa using hr
    have htk : fpZ P M K (some b) call ops k S.1 S.2 = tab.getD k z0 := by
      have := ht 0 (by omega)
      simp [tabL, List.range'_succ] at this
      simpa using this.symm
    refine anyA_first hc h0 n listed S S1 hcl (pairs_spec h0 hla (by simpa [chkOk] using hl.1)) hr' htk h1 (anyA_lex hc n (k + 1) _ S1 lb (by omega) (hcl.step hr') hlb (by simpa [chkOk] using hl.2) (fun m hm => ?_) h2)
    have := ht (m + 1) (by omega)
    simp only [List.range'_succ, tabL, h1] at this
    rw [show k + 1 + m = k + (m + 1) from by omega, this]
    simp

end Go.Proofs.Ago
