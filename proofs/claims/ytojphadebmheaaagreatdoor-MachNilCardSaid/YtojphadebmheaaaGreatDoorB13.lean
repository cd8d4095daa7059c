/- Slice literals, make, cuts of slices, bytes as a string. -/
import Derived.Test.YtojphadebmheaaaGreatDoorB12
namespace Go.Proofs.Ago
open Go
variable {P : Program}
section
variable {B : Base} {φ : Phi} {μ : Mu} {st : Store} {w : World}

theorem fill_range {esz : Nat} : ∀ (vals : List Value) (s : Nat) (cs : Array Value), (∀ v ∈ vals, v.cells.size = esz) → (s + vals.length) * esz ≤ cs.size →
    ∃ rs, Instr.fill (fun i => some (i * esz, esz)) cs ((List.range' s vals.length).zip vals) = some rs ∧ rs.size = cs.size ∧ (∀ j, j < s * esz → rs.getD j undef = cs.getD j undef) ∧
      ∀ k j, k < vals.length → j < esz → rs.getD ((s + k) * esz + j) undef = (vals.getD k undef).cells.getD j undef
  | [], s, cs, _, _ => ⟨cs, rfl, rfl, fun _ _ => rfl, fun k j hk => by simp at hk⟩
  | v :: vals, s, cs, hv, hfit => by
    have hvs := hv v (by simp)
    have hfs := fold_set (s * esz) v.cells.toList 0 cs
    simp only [Nat.add_zero] at hfs
    have hfold : (v.cells.zipIdx.foldl (fun cs (c, j) => cs.setIfInBounds (s * esz + j) c) cs) = (v.cells.toList.zipIdx 0).foldl (fun cs (c, j) => cs.setIfInBounds (s * esz + j) c) cs := by
      rw [← Array.foldl_toList, Array.toList_zipIdx]
    have e0 : (s + (v :: vals).length) * esz = (s + 1 + vals.length) * esz := by simp only [List.length_cons]; congr 1; omega
    have e1 : (s + 1) * esz = s * esz + esz := by rw [Nat.add_mul, Nat.one_mul]
    have e2 : (s + 1) * esz ≤ (s + 1 + vals.length) * esz := Nat.mul_le_mul_right _ (by omega)
    obtain ⟨rs, h1, h2, h3, h4⟩ := fill_range vals (s + 1) (v.cells.zipIdx.foldl (fun cs (c, j) => cs.setIfInBounds (s * esz + j) c) cs) (fun u hu => hv u (by simp [hu])) (by rw [hfold, hfs.1]; omega)
    refine ⟨rs, ?_, by rw [h2, hfold, hfs.1], fun j hj => ?_, fun k j hk hj => ?_⟩
    · simp only [List.length_cons, List.range'_succ, List.zip_cons_cons, Instr.fill]
      rw [if_neg (by simp; omega)]
      exact h1
    · rw [h3 j (by omega), hfold, hfs.2 j (by simp; omega), if_neg (by omega)]
    · cases k with
      | zero =>
        rw [h3 _ (by simp; omega), hfold, hfs.2 _ (by simp; omega), if_pos (by simp; omega)]
        simp
      | succ k =>
        have := h4 k j (by simpa using hk) hj
        rw [show s + (k + 1) = s + 1 + k from by omega, this]
        simp

theorem zip_range' {α : Type} : ∀ (l : List (Nat × α)) (s : Nat), l.map (·.1) = List.range' s l.length → l = (List.range' s l.length).zip (l.map (·.2))
  | [], s, _ => rfl
  | (i, x) :: l, s, h => by
    simp only [List.map_cons, List.length_cons, List.range'_succ, List.cons.injEq] at h
    obtain ⟨rfl, h⟩ := h
    simp only [List.length_cons, List.range'_succ, List.map_cons, List.zip_cons_cons, List.cons.injEq, true_and]
    exact zip_range' l _ h

theorem goodEls_vals {esz : Nat} {vs : List AV} (hg : goodEls esz vs = true) {vals : List Value} (hl : vals.length = vs.length) (hr : ∀ k, k < vs.length → VRel φ μ (vs.getD k .unk) (vals.getD k undef)) :
    (∀ v ∈ vals, v.cells.size = esz) ∧ ∀ k j, k < vs.length → j < esz → VRel φ μ ((vs.getD k .unk).cells.getD j .unk) ((vals.getD k undef).cells.getD j undef) := by
  have key : ∀ k, k < vs.length → (vals.getD k undef).cells.size = esz ∧ ∀ j, j < esz → VRel φ μ ((vs.getD k .unk).cells.getD j .unk) ((vals.getD k undef).cells.getD j undef) := fun k hk => by
    obtain ⟨g1, g2⟩ := goodEls_spec hg k hk
    obtain ⟨h1, h2, _⟩ := (hr k hk).cells g2
    exact ⟨by omega, fun j hj => h2 j (by omega)⟩
  refine ⟨fun v hv => ?_, fun k j hk hj => (key k hk).2 j hj⟩
  obtain ⟨k, hk, rfl⟩ := List.getElem_of_mem hv
  have := (key k (by omega)).1
  simpa [List.getD, hk] using this

theorem replicate_pure {z : AV} (h : z.pure = true) : ∀ n, AV.pure.pureL (List.replicate n z) = true
  | 0 => rfl
  | n + 1 => by simp only [List.replicate_succ, AV.pure.pureL, h, Bool.true_and]; exact replicate_pure h n

theorem s_bslice {t e : TypeId} {i : TypeInfo} {z : AV} {n : Nat} {parts : Array (Nat × Operand)} (ht : P.underlying t = some (.slice e)) (hi : P.info? e = some i) (hz : zeroA P e = some z) (hbig : n * i.size ≤ 16777216) (hzl : z.cells.length = i.size)
    {E : Operand → AV} {ρ : Operand → Value} {sl : Option Nat} {v : AV} {st' : Store} (h : rBslice st sl i.size z n (parts.toList.map (·.1)) ((parts.toList.map (·.2)).map E) = some (v, st')) (hρ : ∀ x, VRel φ μ (E x) (ρ x)) (hs : Sim B φ μ st w) :
    OutV P B φ μ (Instr.buildSlice t n (parts.map fun (i, x) => (i, ρ x))) v st' w := by
  obtain ⟨i', zv, hi', hzz, rfl⟩ := zeroA_eq hz
  obtain rfl : i' = i := Option.some.inj (hi'.symm.trans hi)
  obtain ⟨hzs, hzr⟩ := absV_cell_rel φ μ zv
  have hrun : ∀ rs : Array Value, Instr.fill (fun k => some (k * i'.size, i'.size)) ((Array.range (n * i'.size)).map (zv.cells[· % zv.cells.size]!)) (parts.map fun (i, x) => (i, ρ x)).toList = some rs →
      (Instr.buildSlice t n (parts.map fun (i, x) => (i, ρ x))).run P w = .ok (.slice (some ⟨w.heap.size, 0, none⟩) n n) (w.alloc (.cells rs e (0, 0))) := fun rs hrs => by
    have hb : ¬ (n * i'.size > 16777216) := by omega
    by_cases h0 : n * i'.size = 0
    · rw [h0] at hrs
      simp only [Instr.buildSlice, Sem.run_bind, run_underlying ht, Result.andThen_ok, run_sizeOf (show (P.info? e).map (·.size) = some i'.size by simp [hi]), Sem.run_ite]
      simp only [show (2:Nat) ^ 24 = 16777216 from rfl, hb, if_false, h0, Sem.run_pure, if_true, Result.andThen_ok]
      have : (Array.map (fun x => (#[] : Array Value)[x % (#[] : Array Value).size]!) (Array.range 0)) = (Array.range 0).map (zv.cells[· % zv.cells.size]!) := by simp
      rw [this, hrs]
      simp [newRow]
    · simp only [Instr.buildSlice, Sem.run_bind, run_underlying ht, Result.andThen_ok, run_sizeOf (show (P.info? e).map (·.size) = some i'.size by simp [hi]), Sem.run_ite]
      simp only [show (2:Nat) ^ 24 = 16777216 from rfl, hb, if_false, h0, Sem.run_pure, Sem.run_bind, zeroValue, typeInfo, run_program, hi, hzz, Result.andThen_ok]
      rw [hrs]
      simp [newRow]
  have lay : ∀ (vs : List AV) (rs : Array Value), vs.length = n → rs.size = n * i'.size → (∀ k, k < n → (vs.getD k .unk).cells.length = i'.size) → AV.pure.pureL vs = true →
      (∀ k j, k < n → j < i'.size → VRel φ μ ((vs.getD k .unk).cells.getD j .unk) (rs.getD (k * i'.size + j) undef)) →
      Instr.fill (fun k => some (k * i'.size, i'.size)) ((Array.range (n * i'.size)).map (zv.cells[· % zv.cells.size]!)) (parts.map fun (i, x) => (i, ρ x)).toList = some rs → OutV P B φ μ (Instr.buildSlice t n (parts.map fun (i, x) => (i, ρ x))) (.vsl true vs) st w :=
    fun vs rs hl hsz hcl hpu hrel hfill => by
      obtain ⟨μ', hs', he, hfz⟩ := hs.frozenNew rs e
      refine .mk (hrun rs hfill) (.pure ?_) hs' he
      have := PRel.vsl (μ := μ') true vs w.heap.size 0 n i'.size (fun k j => rs.getD (k * i'.size + j) undef) (fun k j hk hj => by
          rw [Nat.zero_add]
          exact hfz _ (by rw [hsz]; exact row_fit (hl ▸ hk) hj (Nat.le_refl _))) (fun k hk => hcl k (hl ▸ hk))
        (fun k j hk hj => (pure_rel (hrel k j (hl ▸ hk) hj) (pure_cells (pureL_get hpu k hk) j (by rw [hcl k (hl ▸ hk)]; exact hj))).mono he.mu) (fun _ => hl.symm) (by omega)
      rwa [hl] at this
  unfold rBslice at h
  split at h
  · rename_i hc
    obtain ⟨hix, hvn, hg⟩ := hc
    have hpl : parts.toList.length = n := by simpa using hvn
    let vals : List Value := (parts.toList.map (·.2)).map ρ
    have hvl : vals.length = ((parts.toList.map (·.2)).map E).length := by simp [vals]
    obtain ⟨hv1, hv2⟩ := goodEls_vals (φ := φ) (μ := μ) hg hvl (fun k hk => by
      have hk' : k < parts.size := by simpa using hk
      have := hρ (parts[k]).2
      simpa [List.getD, vals, hk'] using this)
    have hvn' : vals.length = n := by rw [hvl]; exact hvn
    obtain ⟨rs, h1, h2, _, h4⟩ := fill_range (esz := i'.size) vals 0 ((Array.range (n * i'.size)).map (zv.cells[· % zv.cells.size]!)) hv1 (by simp [hvn'])
    have hparts : (parts.map fun (i, x) => (i, ρ x)).toList = (List.range' 0 vals.length).zip vals := by
      have := zip_range' (parts.map fun (i, x) => (i, ρ x)).toList 0 (by
        have e1 : ((parts.map fun (i, x) => (i, ρ x)).toList.map (·.1)) = parts.toList.map (·.1) := by simp [Function.comp_def]
        rw [e1, hix, List.range_eq_range']
        simp [← hpl])
      rw [this]
      congr 1
      · simp [vals]
      · simp [vals, Function.comp_def]
    rw [← hparts] at h1
    have hsz : rs.size = n * i'.size := by rw [h2]; simp
    have hrel : ∀ k j, k < n → j < i'.size → VRel φ μ ((((parts.toList.map (·.2)).map E).getD k .unk).cells.getD j .unk) (rs.getD (k * i'.size + j) undef) := fun k j hk hj => by
      have e := h4 k j (by omega) hj
      rw [Nat.zero_add] at e
      rw [e]
      exact hv2 k j (by omega) hj
    split at h
    · rename_i hpu
      injection h with h; injection h with ha hb; subst ha; subst hb
      exact lay _ rs hvn hsz (fun k hk => (goodEls_spec hg k (by omega)).1) hpu hrel h1
    · obtain ⟨bn, hn, rfl⟩ := newBlk_map (g := fun b => .osl b 0 n) h
      obtain ⟨hp, hx⟩ := hs.new i'.size n ((parts.toList.map (·.2)).map E) rs e hsz (by omega) (fun k hk => (goodEls_spec hg k hk).1) (fun k j hk hj => hrel k j (by omega) hj) ⟨0, none⟩ (Nat.zero_le _) (fun _ h => by cases h) hn
      refine .mk (hrun rs h1) ?_ hp hx
      have := VRel.osl (φ := φ.put bn ⟨w.heap.size, n, i'.size⟩) (μ := μ) bn 0 n ⟨w.heap.size, n, i'.size⟩ (by simp [Phi.put]) (by simp)
      simpa using this
  · split at h <;> try (cases h; done)
    rename_i hc
    obtain ⟨hix, hvn, hg, hpz⟩ := hc
    injection h with h; injection h with ha hb; subst ha; subst hb
    have hp0 : parts = #[] := by
      have : parts.toList = [] := by simpa using hix
      simpa using this
    have hget : ∀ k, k < n → (List.replicate n (absV zv)).getD k .unk = absV zv := fun k hk => by simp [List.getD, hk]
    refine lay (List.replicate n (absV zv)) ((Array.range (n * i'.size)).map (zv.cells[· % zv.cells.size]!)) (by simp) (by simp) (fun k hk => by rw [hget k hk]; exact hzl) ?_ (fun k j hk hj => ?_) (by simp [hp0, Instr.fill])
    · exact replicate_pure hpz n
    · rw [hget k hk]
      have hlt := row_fit hk hj (Nat.le_refl n)
      have hm : (k * i'.size + j) % zv.cells.size = j := by
        rw [hzs, hzl, Nat.mul_comm, Nat.mul_add_mod]
        exact Nat.mod_eq_of_lt hj
      have := hzr j (by omega)
      have hjl : j < zv.cells.size := by omega
      simp [hlt, hm, hjl] at this ⊢
      exact this

theorem s_mkSlice {t e : TypeId} {i : TypeInfo} {z : AV} (ht : P.underlying t = some (.slice e)) (hi : P.info? e = some i) (hz : zeroA P e = some z) (hzl : z.cells.length = i.size) {a b : AV} {x y : Value} {v : AV} {st' : Store}
    {sl : Option Nat} (h : rMkSlice st sl i.size i.bytes z [a, b] = some (v, st')) (ha : VRel φ μ a x) (hb : VRel φ μ b y) (hs : Sim B φ μ st w) : OutV P B φ μ (Instr.makeSlice t x y) v st' w := by
  obtain ⟨i', zv, hi', hzz, rfl⟩ := zeroA_eq hz
  obtain rfl : i' = i := Option.some.inj (hi'.symm.trans hi)
  obtain ⟨hzs, hzr⟩ := absV_cell_rel φ μ zv
  unfold rMkSlice at h
  split at h <;> try (cases h; done)
  rename_i k1 l k2 c heq
  simp at heq; obtain ⟨rfl, rfl⟩ := heq
  split at h <;> try (cases h; done)
  rename_i hc
  obtain ⟨h0, hlc, hb1, hb2, hg⟩ := hc
  obtain ⟨bn, hn, rfl⟩ := newBlk_map (g := fun b => .osl b 0 l.toNat) h
  rw [ha.int_inv, hb.int_inv]
  have hmx : (maxA : Int) = 1099511627776 := rfl
  have hrun := run_make (P := P) w t e i' zv ht hi hzz k1 k2 l c h0 hlc (by rw [Int.mul_comm]; omega) (by omega)
  have hget : ∀ k, k < c.toNat → (List.replicate c.toNat (absV zv)).getD k .unk = absV zv := fun k hk => by simp [List.getD, hk]
  obtain ⟨hp, hx⟩ := hs.new i'.size c.toNat (List.replicate c.toNat (absV zv)) (madeCells zv.cells (c.toNat * i'.size)) e (size_madeCells _ _) (by simp) (fun k hk => by rw [hget k (by simpa using hk)]; exact hzl)
    (fun k j hk hj => by
      have hk' : k < c.toNat := by simpa using hk
      rw [hget k hk']
      have hlt := row_fit hk' hj (Nat.le_refl c.toNat)
      have hm : (k * i'.size + j) % zv.cells.size = j := by
        rw [hzs, hzl, Nat.mul_comm, Nat.mul_add_mod]
        exact Nat.mod_eq_of_lt hj
      have := hzr j (by omega)
      have hjl : j < zv.cells.size := by omega
      simp [madeCells, hlt, hm, hjl] at this ⊢
      exact this) ⟨0, none⟩ (Nat.zero_le _) (fun _ h => by cases h) hn
  refine .mk hrun ?_ hp hx
  have := VRel.osl (φ := φ.put bn ⟨w.heap.size, c.toNat, i'.size⟩) (μ := μ) bn 0 l.toNat ⟨w.heap.size, c.toNat, i'.size⟩ (by simp [Phi.put]) (by simp; omega)
  simpa using this

end
end Go.Proofs.Ago
