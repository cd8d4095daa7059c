/- Cuts of slices, bytes as a string; every operation on values. -/
import Derived.Test.YtojphadebmheaaaGreatDoorB13
namespace Go.Proofs.Ago
open Go
variable {P : Program}
section
variable {B : Base} {φ : Phi} {μ : Mu} {st : Store} {w : World}

def BndV (o : Option Value) (n d : Nat) : Prop :=
  match o with
  | none => n = d
  | some v => ∃ k i, v = .int k i ∧ 0 ≤ i ∧ n = i.toNat

theorem BndO.val {ρ : Operand → Value} {o : Option Operand} {n d : Nat} (h : BndO ρ o n d) : BndV (o.map ρ) n d := by
  cases o <;> exact h

/-- The bounds of a slice expression, worked out. -/
theorem run_bounds {isl : Bool} {len cap l h m : Nat} {lo hi mx : Option Value} (hmh : mx.isSome = true → hi.isSome = true)
    (hm : BndV mx m cap) (hh : BndV hi h len) (hl : BndV lo l 0) (h1 : l ≤ h) (h2 : h ≤ m) (h3 : m ≤ cap) :
    (Instr.sliceBounds isl len cap lo hi mx).run P w = .ok (l, h, m) w := by
  have fin : ∀ (h m : Nat) code, l ≤ h → (match lo with | some v => (do let l ← Instr.sliceBound v h code; pure (l, h, m)) | none => (do let l ← pure 0; pure (l, h, m)) : Sem (Nat × Nat × Nat)).run P w = .ok (l, h, m) w := fun h m code h1 => by
    cases lo with
    | none => cases hl; rfl
    | some v =>
      obtain ⟨k, i, rfl, h0, rfl⟩ := hl
      simp only [Sem.run_bind, run_sb h0 h1, Result.andThen_ok, Sem.run_pure]
  cases mx with
  | none =>
    cases hm
    cases hi with
    | none =>
      cases hh
      simp only [Instr.sliceBounds, Sem.run_bind, Sem.run_pure, Result.andThen_ok]
      exact fin _ _ _ h1
    | some v =>
      obtain ⟨k, i, rfl, h0, rfl⟩ := hh
      simp only [Instr.sliceBounds, Sem.run_bind, Sem.run_pure, Result.andThen_ok, run_sb h0 h2]
      exact fin _ _ _ h1
  | some v =>
    obtain ⟨k, i, rfl, h0, rfl⟩ := hm
    cases hi with
    | none => simp at hmh
    | some v =>
      obtain ⟨k2, i2, rfl, h02, rfl⟩ := hh
      simp only [Instr.sliceBounds, Sem.run_bind, Sem.run_pure, Result.andThen_ok, run_sb h0 h3, run_sb h02 h2]
      exact fin _ _ _ h1

theorem s_ssl {t e : TypeId} {n : Nat} (ht : P.underlying t = some (.slice e)) (hn : sizeA P e = some n) {x : Operand} {lo hi mx : Option Operand} (hmh : mx.isSome = true → hi.isSome = true) {E : Operand → AV} {ρ : Operand → Value} {v : AV} {st' : Store}
    (h : rSsl st n lo.isSome hi.isSome mx.isSome ((x :: lo.toList ++ hi.toList ++ mx.toList).map E) = some (v, st')) (hρ : ∀ x, VRel φ μ (E x) (ρ x)) (hs : Sim B φ μ st w) :
    OutV P B φ μ (Instr.sliceAt t (ρ x) (lo.map ρ) (hi.map ρ) (mx.map ρ)) v st' w := by
  have hmh' : (mx.map ρ).isSome = true → (hi.map ρ).isSome = true := by simpa using hmh
  have hrun : ∀ (a : Option Addr) (len cap l h m : Nat), (Instr.sliceBounds true len cap (lo.map ρ) (hi.map ρ) (mx.map ρ)).run P w = .ok (l, h, m) w →
      (Instr.sliceAt t (.slice a len cap) (lo.map ρ) (hi.map ρ) (mx.map ρ)).run P w = .ok (.slice (if m = l then a else a.map (·.add (l * n))) (h - l) (m - l)) w := fun a len cap l h m hb => by
    simp only [Instr.sliceAt, Sem.run_bind, run_underlying ht, Result.andThen_ok, Instr.slice, hb, run_sizeOf hn, Sem.run_pure]
  have hx := hρ x
  simp only [List.cons_append, List.map_cons, List.append_assoc] at h
  unfold rSsl at h
  split at h <;> try (cases h; done)
  · rename_i f xs vs heq
    simp only [List.cons.injEq] at heq
    obtain ⟨hex, hvs⟩ := heq
    rw [hex] at hx
    simp only [Option.bind_eq_some_iff] at h
    obtain ⟨l, hl, hh', hh, m, hm, h⟩ := h
    split at h <;> try (cases h; done)
    rename_i hc
    obtain ⟨c1, c2, c3, c4⟩ := hc
    injection h with h; injection h with h1 h2; subst h1; subst h2
    obtain ⟨e1, hl⟩ := bound_some (φ := φ) (μ := μ) hl rfl hvs.symm hρ
    obtain ⟨e2, hh⟩ := bound_some (φ := φ) (μ := μ) hh rfl e1 hρ
    obtain ⟨_, hm⟩ := bound_some (φ := φ) (μ := μ) (rest := []) hm rfl (by simpa using e2) hρ
    have hl := hl.val
    have hh := hh.val
    have hm := hm.val
    have hlen : ((xs.drop l.1).take (hh'.1 - l.1)).length = hh'.1 - l.1 := by simp; omega
    rcases hx.vsl_inv with ⟨rfl, hρx⟩ | ⟨blk, base, cap, esz, g, hgm, hgl, hgr, hcf, hcap, hρx⟩
    · rw [hρx]
      simp at c3
      have hz : hh'.1 = 0 ∧ l.1 = 0 := ⟨by omega, by omega⟩
      refine .same hs (hrun none 0 0 l.1 hh'.1 m.1 (run_bounds hmh' (by simpa using hm) (by simpa using hh) hl c1 c2 (by omega))) ?_
      rw [hz.1, hz.2, c3]
      simpa using VRel.pure (φ := φ) (PRel.vnil (μ := μ) _)
    · rw [hρx]
      -- the third bound: the capacity, if there is none
      have hM : ∃ M, BndV (mx.map ρ) M cap ∧ hh'.1 ≤ M ∧ M ≤ cap ∧ (mx.isSome = true → M = m.1) ∧ (mx = none → M = cap) := by
        cases mx with
        | none => exact ⟨cap, rfl, by omega, Nat.le_refl _, fun h => by simp at h, fun _ => rfl⟩
        | some q => exact ⟨m.1, hm, c2, by omega, fun _ => rfl, fun h => by cases h⟩
      obtain ⟨M, hM1, hM2, hM3, hM4, hM5⟩ := hM
      refine .same hs (hrun _ xs.length cap l.1 hh'.1 M (run_bounds hmh' hM1 hh hl c1 hM2 hM3)) (.pure ?_)
      have hfull : (if mx.isSome = true then m.1 == hh'.1 else f && hh'.1 == xs.length) = true → M = hh'.1 := fun hq => by
        by_cases hmx : mx.isSome = true
        · rw [if_pos hmx] at hq
          have := hM4 hmx
          simp at hq; omega
        · rw [if_neg hmx] at hq
          simp only [Bool.and_eq_true, beq_iff_eq] at hq
          have h1 := hcf hq.1
          have := hM5 (by cases mx <;> simp_all)
          omega
      have hget : ∀ k, k < hh'.1 - l.1 → ((xs.drop l.1).take (hh'.1 - l.1)).getD k .unk = xs.getD (l.1 + k) .unk := fun k hk => by
        simp [List.getD, List.getElem?_take, hk]
      have addr : ∃ base', (if M = l.1 then some (⟨blk, base, none⟩ : Addr) else (some (⟨blk, base, none⟩ : Addr)).map (·.add (l.1 * n))) = some ⟨blk, base', none⟩ ∧ (M ≠ l.1 → base' = base + l.1 * n) := by
        by_cases hMl : M = l.1
        · exact ⟨base, by rw [if_pos hMl], fun h => absurd hMl h⟩
        · exact ⟨base + l.1 * n, by rw [if_neg hMl]; simp [Addr.add_mid], fun _ => rfl⟩
      obtain ⟨base', ea, eb⟩ := addr
      rw [ea]
      have := PRel.vsl (μ := μ) (if mx.isSome = true then m.1 == hh'.1 else f && hh'.1 == xs.length) ((xs.drop l.1).take (hh'.1 - l.1)) blk base' (M - l.1) esz (fun k j => g (l.1 + k) j)
        (fun k j hk hj => by
          rw [hlen] at hk
          have hesz : esz = n := by
            cases xs with
            | nil => simp at c3; omega
            | cons y ys =>
              have := hgl 0 (by simp)
              simp [headOk] at c4 this
              omega
          rw [eb (by omega), ← hgm (l.1 + k) j (by omega) hj, hesz, Nat.add_mul]
          congr 1; omega)
        (fun k hk => by rw [hlen] at hk; rw [hget k hk]; exact hgl _ (by omega))
        (fun k j hk hj => by rw [hlen] at hk; rw [hget k hk]; exact hgr _ j (by omega) hj)
        (fun hq => by have := hfull hq; omega) (by omega)
      rwa [hlen] at this
  · rename_i vs heq
    simp only [List.cons.injEq] at heq
    obtain ⟨hex, hvs⟩ := heq
    rw [hex] at hx
    simp only [Option.bind_eq_some_iff] at h
    obtain ⟨l, hl, hh', hh, m, hm, h⟩ := h
    split at h <;> try (cases h; done)
    rename_i hc
    obtain ⟨c1, c2, c3⟩ := hc
    injection h with h; injection h with h1 h2; subst h1; subst h2
    obtain ⟨e1, hl⟩ := bound_some (φ := φ) (μ := μ) hl rfl hvs.symm hρ
    obtain ⟨e2, hh⟩ := bound_some (φ := φ) (μ := μ) hh rfl e1 hρ
    obtain ⟨_, hm⟩ := bound_some (φ := φ) (μ := μ) (rest := []) hm rfl (by simpa using e2) hρ
    rw [hx.nils_inv]
    refine .same hs (hrun none 0 0 0 0 0 (run_bounds hmh' (by have := hm.val; rwa [c3] at this) (by have := hh.val; rwa [c2] at this) (by have := hl.val; rwa [c1] at this) (Nat.le_refl _) (Nat.le_refl _) (Nat.le_refl _))) ?_
    simpa using VRel.pure (φ := φ) (PRel.nils (μ := μ))
  · rename_i b off len vs heq
    simp only [List.cons.injEq] at heq
    obtain ⟨hex, hvs⟩ := heq
    rw [hex] at hx
    simp only [Option.bind_eq_some_iff] at h
    obtain ⟨l, hl, hh', hh, h⟩ := h
    split at h <;> try (cases h; done)
    rename_i e0 xs ro hb
    split at h <;> try (cases h; done)
    rename_i hc
    obtain ⟨rfl, hfit⟩ := hc
    obtain ⟨e1, hl⟩ := bound_some (φ := φ) (μ := μ) hl rfl hvs.symm hρ
    obtain ⟨e2, hh⟩ := bound_some (φ := φ) (μ := μ) hh rfl e1 hρ
    have hl := hl.val
    have hh := hh.val
    obtain ⟨p, hp, hcap, hρx⟩ := hx.osl_inv
    obtain ⟨q, cs, T, hr⟩ := hs.rows _ _ _ _ hb
    obtain rfl : q = p := Option.some.inj (hr.at_.symm.trans hp)
    rw [hρx]
    have empty : ∀ (ful : Bool) (ad : Option Addr) (c : Nat), (∃ a b, ad = some ⟨a, b, none⟩) → (ful = true → c = 0) → VRel φ μ (.vsl ful []) (.slice ad 0 c) := fun ful ad c ⟨a, b, had⟩ hf => by
      subst had
      have := PRel.vsl (μ := μ) ful [] a b c 0 (fun _ _ => undef) (fun k j hk => by simp at hk) (fun k hk => by simp at hk) (fun k j hk => by simp at hk) (fun h => by simpa using hf h) (by simp)
      exact .pure (by simpa using this)
    have hadd : ∀ M : Nat, ∃ a b, (if M = l.1 then some (⟨q.blk, off * q.esz, none⟩ : Addr) else (some (⟨q.blk, off * q.esz, none⟩ : Addr)).map (·.add (l.1 * e0))) = some ⟨a, b, none⟩ := fun M => by
      split
      · exact ⟨_, _, rfl⟩
      · exact ⟨q.blk, off * q.esz + l.1 * e0, by simp [Addr.add_mid]⟩
    split at h
    · rename_i hmx
      simp only [Option.bind_eq_some_iff] at h
      obtain ⟨m, hm, h⟩ := h
      split at h <;> try (cases h; done)
      rename_i hc
      obtain ⟨c1, c2, c3⟩ := hc
      injection h with h; injection h with h1 h2; subst h1; subst h2
      obtain ⟨_, hm⟩ := bound_some (φ := φ) (μ := μ) (rest := []) hm rfl (by simpa using e2) hρ
      have hm : BndV (mx.map ρ) m.1 (q.cap - off) := by
        cases mx with
        | none => simp at hmx
        | some y => exact hm
      refine .same hs (hrun _ len (q.cap - off) l.1 hh'.1 m.1 (run_bounds hmh' hm hh hl (by omega) (by omega) (by omega))) ?_
      rw [show hh'.1 - l.1 = 0 from by omega, show m.1 - l.1 = 0 from by omega]
      exact empty true _ 0 (hadd _) (fun _ => rfl)
    · rename_i hmx
      have hmn : mx = none := by cases mx <;> simp_all
      subst hmn
      split at h <;> try (cases h; done)
      rename_i hc
      obtain ⟨c1, c2⟩ := hc
      have hb' := hrun (some ⟨q.blk, off * q.esz, none⟩) len (q.cap - off) l.1 hh'.1 (q.cap - off) (run_bounds hmh' rfl hh hl c1 (by omega) (Nat.le_refl _))
      split at h
      · rename_i he
        injection h with h; injection h with h1 h2; subst h1; subst h2
        refine .same hs hb' ?_
        rw [show hh'.1 - l.1 = 0 from by omega]
        exact empty false _ _ (hadd _) (fun h => by cases h)
      · rename_i he
        injection h with h; injection h with h1 h2; subst h1; subst h2
        refine .same hs hb' ?_
        have hv := VRel.osl (φ := φ) (μ := μ) b (off + l.1) (hh'.1 - l.1) q hp (by omega)
        rw [show q.cap - (off + l.1) = q.cap - off - l.1 from by omega] at hv
        by_cases hq : q.cap - off = l.1
        · have h0 : l.1 = 0 := by omega
          rw [if_pos hq]
          rw [h0] at hv ⊢
          simpa using hv
        · rw [if_neg hq]
          rw [Nat.add_mul] at hv
          rw [← hr.esz_]
          simpa [Addr.add_mid] using hv

/-- A cut of an array in memory. -/
theorem s_sla {t e : TypeId} {n : Nat} (ht : P.underlying t = some (.array n e)) (hn : sizeA P e = some 1) {x : Operand} {lo hi : Option Operand} {E : Operand → AV} {ρ : Operand → Value} {v : AV} {st' : Store}
    (h : rSla st n lo.isSome hi.isSome ((x :: lo.toList ++ hi.toList).map E) = some (v, st')) (hρ : ∀ x, VRel φ μ (E x) (ρ x)) (hs : Sim B φ μ st w) :
    OutV P B φ μ (Instr.sliceAt t (ρ x) (lo.map ρ) (hi.map ρ) none) v st' w := by
  have hx := hρ x
  simp only [List.cons_append, List.map_cons, rSla] at h
  split at h <;> try (cases h; done)
  rename_i b i off vs heq
  simp only [List.cons.injEq] at heq
  obtain ⟨hex, hvs⟩ := heq
  rw [hex] at hx
  simp only [Option.bind_eq_some_iff] at h
  obtain ⟨l, hl, hh', hh, h⟩ := h
  split at h <;> try (cases h; done)
  rename_i hc
  obtain ⟨c1, c2, c3⟩ := hc
  injection h with h; injection h with h1 h2; subst h1; subst h2
  obtain ⟨e1, hl⟩ := bound_some (φ := φ) (μ := μ) hl rfl hvs.symm hρ
  obtain ⟨_, hh⟩ := bound_some (φ := φ) (μ := μ) (rest := []) hh rfl (by simpa using e1) hρ
  have hl := hl.val
  have hh := hh.val
  obtain ⟨p, hp, hxe⟩ := hx.ptr_inv
  have hb := run_bounds (P := P) (w := w) (isl := false) (len := n) (cap := n) (l := l.1) (h := hh'.1) (m := n) (lo := lo.map ρ) (hi := hi.map ρ) (mx := none) (fun h => by cases h) rfl hh hl c1 c2 (Nat.le_refl _)
  have hm : ¬ n = l.1 := by omega
  refine .same hs (cv := .slice (some ⟨p.blk, i * p.esz + (off + l.1), none⟩) (hh'.1 - l.1) (n - l.1)) ?_ (.asl _ _ _ _ _ p hp)
  rw [hxe]
  simp only [Instr.sliceAt, Sem.run_bind, run_underlying ht, Result.andThen_ok, Instr.sureAddr, Sem.run_pure, hb, run_sizeOf hn, if_neg hm]
  simp [Addr.add, Nat.add_assoc]

theorem foldl_push : ∀ (ns : List Int) (s : ByteArray), (ns.foldl (fun r n => r.push (UInt8.ofNat n.toNat)) s).data.toList = s.data.toList ++ ns.map fun n => UInt8.ofNat n.toNat
  | [], s => by simp
  | n :: ns, s => by
    simp only [List.foldl_cons, List.map_cons]
    rw [foldl_push ns]
    simp [ByteArray.push]

theorem s_cbs {s d e : TypeId} (h1 : P.underlying s = some (.slice e)) (he : P.underlying e = some (.int .u8)) (h2 : P.underlying d = some .string) {a : AV} {x : Value} {v : AV} {st' : Store} (h : rCbs st [a] = some (v, st'))
    (ha : VRel φ μ a x) (hs : Sim B φ μ st w) : OutV P B φ μ (convert s d x) v st' w := by
  have hns : ∀ t, a ≠ .str t := fun t hh => by subst hh; simp [rCbs] at h
  have h : ((srcOf st a).bind fun xs => (xs.mapM asU8).map fun s => (AV.str s, st)) = some (v, st') := by
    unfold rCbs at h
    split at h
    · cases h
    · rename_i heq; simp at heq; subst heq; exact h
    · cases h
  simp only [Option.bind_eq_some_iff, Option.map_eq_some_iff, Prod.mk.injEq] at h
  obtain ⟨ys, hys, bs, hbs, rfl, rfl⟩ := h
  obtain ⟨hl, hget⟩ := mapM_get hbs
  have hu8 : ∀ k, k < ys.length → ∃ n, ys.getD k .unk = .int .u8 n ∧ bs.getD k 0 = UInt8.ofNat n.toNat := fun k hk => by
    obtain ⟨b, hb, hb'⟩ := hget k ys[k] (by simp [hk])
    unfold asU8 at hb
    split at hb <;> try (cases hb; done)
    rename_i n hy
    injection hb with hb
    exact ⟨n, by simp [List.getD, hk, hy], by simp [List.getD, hb', hb]⟩
  have hg : goodEls 1 ys = true := by
    refine List.all_eq_true.2 fun y hy => ?_
    obtain ⟨k, hk, rfl⟩ := List.getElem_of_mem hy
    obtain ⟨n, hn, _⟩ := hu8 k hk
    have : ys[k] = .int .u8 n := by simpa [List.getD, hk] using hn
    rw [this]; rfl
  obtain ⟨f, hsrc, hf⟩ := src_sound (P := P) (u := s) (e' := e) hys ha hs hg (.inl ⟨h1, hns⟩)
  have hsl : ∃ ad l c, x = .slice ad l c ∧ ys.length = l := by
    unfold srcOf at hys
    split at hys
    · injection hys with hys; subst hys
      rcases ha.vsl_inv with ⟨rfl, rfl⟩ | ⟨_, _, _, _, _, _, _, _, _, _, rfl⟩
      · exact ⟨_, _, _, rfl, rfl⟩
      · exact ⟨_, _, _, rfl, rfl⟩
    · injection hys with hys; subst hys
      exact ⟨_, _, _, ha.nils_inv, rfl⟩
    · obtain ⟨p, _, _, rfl⟩ := ha.osl_inv
      split at hys <;> try (cases hys; done)
      split at hys <;> try (cases hys; done)
      injection hys with hys; subst hys
      exact ⟨_, _, _, rfl, by simp; omega⟩
    · obtain ⟨p, cap, _, rfl⟩ := ha.asl_inv
      split at hys <;> try (cases hys; done)
      simp only [Option.bind_eq_some_iff] at hys
      obtain ⟨el, _, hys⟩ := hys
      split at hys <;> try (cases hys; done)
      injection hys with hys; subst hys
      exact ⟨_, _, _, rfl, by simp; omega⟩
    · exact absurd rfl (hns _)
    · cases hys
  obtain ⟨ad, l, c, rfl, rfl⟩ := hsl
  have hconv := run_convert_bytes_string (P := P) w s d e ad ys.length c h1 he h2
  cases ad with
  | none =>
    have hl0 : ys.length = 0 := by
      have h3 := hsrc.cells
      have h4 : (Builtin.firstCells 1 ys.length (.slice none ys.length c)).run P w = .ok #[] w := rfl
      rw [h4] at h3
      injection h3 with h3 _
      have h5 : (flat ys.length 1 f).length = 0 := by rw [← List.size_toArray, ← h3]; rfl
      rw [flat_length] at h5; omega
    have hb0 : bs = [] := List.eq_nil_of_length_eq_zero (by omega)
    subst hb0
    refine .same hs (cv := .string .empty) (by rw [hconv]; rfl) (.pure ?_)
    exact PRel.str (μ := μ) ByteArray.empty
  | some a =>
    let ns : List Int := (List.range ys.length).map fun k => match ys.getD k .unk with | .int _ n => n | _ => 0
    have hcells : (loadCells a ys.length).run P w = .ok (ns.map (Value.int .u8)).toArray w := by
      have h3 := hsrc.cells
      simp only [Builtin.firstCells, Nat.mul_one] at h3
      rw [h3]
      congr 2
      apply List.ext_getElem
      · rw [flat_length]; simp [ns]
      · intro i hi1 hi2
        rw [flat_length] at hi1
        have hi : i < ys.length := by omega
        have h4 := flat_get (n := ys.length) (esz := 1) (c := f) (k := i) (j := 0) hi (by omega)
        obtain ⟨n, hn, _⟩ := hu8 i hi
        have h5 := hf i 0 hi (by omega)
        rw [hn] at h5
        have h6 : f i 0 = .int .u8 n := VRel.int_inv (φ := φ) (μ := μ) (by simpa [AV.cells] using h5)
        have hn' : ys[i]?.getD .unk = .int .u8 n := by simpa [List.getD] using hn
        simp [flat, ns, hn', Nat.mod_one, h6]
    have hrun := run_bytesToString (P := P) w a ys.length c ns hcells
    refine .same hs (by rw [hconv]; exact hrun) (.pure ?_)
    have := PRel.str (μ := μ) (ns.foldl (fun r n => r.push (UInt8.ofNat n.toNat)) ByteArray.empty)
    rw [foldl_push] at this
    have hbs : bs = ByteArray.empty.data.toList ++ ns.map fun n => UInt8.ofNat n.toNat := by
      apply List.ext_getElem
      · simp [ns, hl]
      · intro i hi1 hi2
        have hi : i < ys.length := by omega
        obtain ⟨n, hn, hb⟩ := hu8 i hi
        have hb' : bs[i] = UInt8.ofNat n.toNat := by simpa [List.getD, hi1] using hb
        rw [hb']
        have hn' : ys[i]?.getD .unk = .int .u8 n := by simpa [List.getD] using hn
        simp [ns, hn']
    rw [hbs]; exact this

end
end Go.Proofs.Ago
