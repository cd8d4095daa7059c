/- Composites, append, make, slices. -/
import Derived.Test.YtojphadebmheaaaGreatDoorB9
import Derived.Deep.Upon
import Derived.Laws.BytesString
namespace Go.Proofs.Ago
open Go
variable {P : Program}
section
variable {B : Base} {φ : Phi} {μ : Mu} {st : Store} {w : World}

theorem pureL_get : ∀ {l : List AV}, AV.pure.pureL l = true → ∀ i, i < l.length → (l.getD i .unk).pure = true
  | [], _, i, hi => by simp at hi
  | v :: l, h, i, hi => by
    simp only [AV.pure.pureL, Bool.and_eq_true] at h
    cases i with
    | zero => simpa using h.1
    | succ i => simpa using pureL_get h.2 i (by simpa using hi)

theorem pure_rel {v : AV} {c : Value} (h : VRel φ μ v c) (hp : v.pure = true) : PRel μ v c := by
  induction h with
  | pure h => exact h
  | ptr => simp [AV.pure] at hp
  | eptr => simp [AV.pure] at hp
  | osl => simp [AV.pure] at hp
  | asl => simp [AV.pure] at hp
  | agg cs vs hl _ ih => exact .agg cs vs hl fun i hi => ih i hi (pureL_get (by simpa [AV.pure] using hp) i hi)
  | tup cs vs hl _ ih => exact .tup cs vs hl fun i hi => ih i hi (pureL_get (by simpa [AV.pure] using hp) i hi)
  | fn f a b as bs hla hlb _ _ iha ihb =>
    simp only [AV.pure, Bool.and_eq_true] at hp
    exact .fn f a b as bs hla hlb (fun i hi => iha i hi (pureL_get hp.1 i hi)) (fun i hi => ihb i hi (pureL_get hp.2 i hi))
  | ifc t v c _ ih => exact .ifc t v c (ih (by simpa [AV.pure] using hp))

theorem pure_cells {v : AV} (h : v.pure = true) (j : Nat) (hj : j < v.cells.length) : (v.cells.getD j .unk).pure = true := by
  by_cases ha : ∃ cs, v = .agg cs
  · obtain ⟨cs, rfl⟩ := ha
    exact pureL_get (l := cs) (by simpa [AV.pure] using h) j hj
  · have : v.cells = [v] := cells_single fun cs he => ha ⟨cs, he⟩
    rw [this] at hj ⊢
    rw [getD_one _ _ _ (by simpa using hj)]; exact h

/-! ### Struct and array values -/

theorem fold_set (off : Nat) : ∀ (l : List Value) (k : Nat) (cs : Array Value), ((l.zipIdx k).foldl (fun cs (c, j) => cs.setIfInBounds (off + j) c) cs).size = cs.size ∧
    ∀ j, off + k + l.length ≤ cs.size → ((l.zipIdx k).foldl (fun cs (c, j) => cs.setIfInBounds (off + j) c) cs).getD j undef = if off + k ≤ j ∧ j < off + k + l.length then l.getD (j - (off + k)) undef else cs.getD j undef
  | [], k, cs => by
    refine ⟨rfl, fun j _ => ?_⟩
    rw [if_neg (by simp)]
    rfl
  | v :: l, k, cs => by
    have ih := fold_set off l (k + 1) (cs.setIfInBounds (off + k) v)
    simp only [List.zipIdx_cons, List.foldl_cons]
    refine ⟨by rw [ih.1]; simp, fun j hj => ?_⟩
    simp only [List.length_cons] at hj
    rw [ih.2 j (by simp; omega)]
    simp only [List.length_cons]
    by_cases h1 : off + (k + 1) ≤ j ∧ j < off + (k + 1) + l.length
    · rw [if_pos h1, if_pos (by omega)]
      rw [show j - (off + k) = (j - (off + (k + 1))) + 1 from by omega]
      simp
    · rw [if_neg h1]
      by_cases h2 : j = off + k
      · subst h2
        rw [if_pos (by omega)]
        have : off + k < cs.size := by omega
        simp [this]
      · rw [if_neg (by omega)]
        simp [Array.getElem?_setIfInBounds_ne (Ne.symm h2)]

theorem fill_rel {place : Nat → Option (Nat × Nat)} : ∀ (parts : List (Nat × Value)) (pl : List (Nat × Nat)) (vs : List AV) (Z : List AV) (zs : Array Value) (r : List AV),
    pl.length = parts.length → vs.length = parts.length → (∀ i, i < parts.length → place (parts.getD i (0, undef)).1 = some (pl.getD i (0, 0))) →
    (∀ i, i < parts.length → VRel φ μ (vs.getD i .unk) (parts.getD i (0, undef)).2) → zs.size = Z.length → (∀ j, j < Z.length → VRel φ μ (Z.getD j .unk) (zs.getD j undef)) →
    fillA Z (pl.zip vs) = some r → ∃ rs, Instr.fill place zs parts = some rs ∧ rs.size = r.length ∧ ∀ j, j < r.length → VRel φ μ (r.getD j .unk) (rs.getD j undef)
  | [], pl, vs, Z, zs, r, hpl, hvs, _, _, hz, hzr, h => by
    simp at hpl hvs
    subst hpl; subst hvs
    simp [fillA] at h
    subst h
    exact ⟨zs, rfl, hz, hzr⟩
  | (i, x) :: parts, pl, vs, Z, zs, r, hpl, hvs, hp, hr, hz, hzr, h => by
    match pl, vs, hpl, hvs with
    | (off, sz) :: pl, v :: vs, hpl, hvs =>
      simp only [List.zip_cons_cons, fillA] at h
      split at h <;> try (cases h; done)
      rename_i hc
      obtain ⟨h1, h2, h3⟩ := hc
      have hp0 := hp 0 (by simp)
      have hr0 := hr 0 (by simp)
      simp at hp0 hr0
      obtain ⟨hcs, hcr, _⟩ := hr0.cells h3
      have hfs := fold_set off x.cells.toList 0 zs
      simp only [Nat.add_zero] at hfs
      have hfold : (x.cells.zipIdx.foldl (fun cs (c, j) => cs.setIfInBounds (off + j) c) zs) = (x.cells.toList.zipIdx 0).foldl (fun cs (c, j) => cs.setIfInBounds (off + j) c) zs := by
        rw [← Array.foldl_toList, Array.toList_zipIdx]
      have hsp : off + v.cells.length ≤ Z.length := by omega
      have ih := fill_rel (place := place) parts pl vs (splice Z off v.cells) (x.cells.zipIdx.foldl (fun cs (c, j) => cs.setIfInBounds (off + j) c) zs) r (by simpa using hpl) (by simpa using hvs)
        (fun k hk => by have := hp (k + 1) (by simpa using hk); simpa using this) (fun k hk => by have := hr (k + 1) (by simpa using hk); simpa using this)
        (by rw [hfold, hfs.1, splice_length hsp, hz]) (fun j hj => by
          rw [splice_length hsp] at hj
          rw [hfold, hfs.2 j (by simp; omega), splice_getD hsp]
          by_cases hin : off ≤ j ∧ j < off + v.cells.length
          · rw [if_pos hin, if_pos (by simp; omega)]
            have := hcr (j - off) (by omega)
            simpa using this
          · rw [if_neg hin, if_neg (by simp; omega)]
            exact hzr j hj) h
      obtain ⟨rs, h4, h5⟩ := ih
      refine ⟨rs, ?_, h5⟩
      have hc1 : ¬ (x.cells.size ≠ sz) := by omega
      have hc2 : ¬ (off + x.cells.size > zs.size) := by omega
      simp only [Instr.fill, hp0]
      rw [if_neg (by simp; omega)]
      exact h4

theorem zeroA_eq {t : TypeId} {z : AV} (h : zeroA P t = some z) : ∃ i zv, P.info? t = some i ∧ i.zero = some zv ∧ z = absV zv := by
  unfold zeroA at h
  cases hi : P.info? t with
  | none => simp [hi] at h
  | some i =>
    cases hz : i.zero with
    | none => simp [hi, hz] at h
    | some zv => simp [hi, hz] at h; exact ⟨i, zv, rfl, hz, h.symm⟩

theorem absV_cell_rel (φ : Phi) (μ : Mu) (zv : Value) : zv.cells.size = (absV zv).cells.length ∧ ∀ j, j < (absV zv).cells.length → VRel φ μ ((absV zv).cells.getD j .unk) (zv.cells.getD j undef) := by
  by_cases ha : ∃ cs, zv = .agg cs
  · obtain ⟨cs, rfl⟩ := ha
    have := absV_rel μ (.agg cs)
    obtain ⟨vs, h1, h2, h3⟩ := (VRel.pure (φ := φ) this).agg_inv
    injection h1 with h1; subst h1
    exact ⟨h2, h3⟩
  · have h1 : (absV zv).cells = [absV zv] := by
      cases zv <;> first | (exact absurd ⟨_, rfl⟩ ha) | (unfold absV; (repeat' split) <;> first | rfl | (rename_i h; cases h))
    have h2 : zv.cells = #[zv] := by cases zv <;> first | rfl | exact absurd ⟨_, rfl⟩ ha
    rw [h1, h2]
    refine ⟨rfl, fun j hj => ?_⟩
    have : j = 0 := by simpa using hj
    subst this
    simpa using VRel.pure (φ := φ) (absV_rel μ zv)

theorem mapM_get {α β : Type} {f : α → Option β} : ∀ {l : List α} {r : List β}, l.mapM f = some r → r.length = l.length ∧ ∀ (i : Nat) (a : α), l[i]? = some a → ∃ b, f a = some b ∧ r[i]? = some b
  | [], r, h => by simp at h; subst h; exact ⟨rfl, fun i a h => by simp at h⟩
  | x :: l, r, h => by
    simp only [List.mapM_cons, Option.bind_eq_bind, Option.bind_eq_some_iff, Option.pure_def, Option.some.injEq] at h
    obtain ⟨b, hb, r', hr', rfl⟩ := h
    obtain ⟨h1, h2⟩ := mapM_get hr'
    refine ⟨by simp [h1], fun i a hi => ?_⟩
    cases i with
    | zero => simp at hi; subst hi; exact ⟨b, hb, rfl⟩
    | succ i => simpa using h2 i a (by simpa using hi)

theorem s_build {t : TypeId} {parts : Array (Nat × Operand)} {z : AV} {pl : List (Nat × Nat)} (hz : zeroA P t = some z) (hpl : resPlaces P t (parts.toList.map (·.1)) = some pl) {E : Operand → AV} {ρ : Operand → Value}
    {v : AV} {st' : Store} (h : rBuild st z.cells pl ((parts.toList.map (·.2)).map E) = some (v, st')) (hρ : ∀ x, VRel φ μ (E x) (ρ x)) (hs : Sim B φ μ st w) :
    OutV P B φ μ (Instr.build t (parts.map fun (i, x) => (i, ρ x))) v st' w := by
  obtain ⟨i, zv, hi, hzz, rfl⟩ := zeroA_eq hz
  unfold rBuild at h
  split at h <;> try (cases h; done)
  rename_i hlen
  simp only [Option.map_eq_some_iff, Prod.mk.injEq] at h
  obtain ⟨r, hr, rfl, rfl⟩ := h
  obtain ⟨hzs, hzr⟩ := absV_cell_rel φ μ zv
  have hlen' : pl.length = parts.toList.length := by simpa using hlen
  have key : ∀ place : Nat → Option (Nat × Nat), (∀ k, k < parts.toList.length → place (parts.toList.getD k (0, default)).1 = some (pl.getD k (0, 0))) →
      ∃ rs, Instr.fill place zv.cells (parts.map fun (i, x) => (i, ρ x)).toList = some rs ∧ rs.size = r.length ∧ ∀ j, j < r.length → VRel φ μ (r.getD j .unk) (rs.getD j undef) := fun place hp => by
    refine fill_rel (φ := φ) (μ := μ) (place := place) _ pl _ _ zv.cells r (by simpa using hlen') (by simp) (fun k hk => ?_) (fun k hk => ?_) hzs hzr hr
    · have hk' : k < parts.toList.length := by simpa using hk
      have := hp k hk'
      have hk2 : k < parts.size := by simpa using hk'
      simp [List.getD, hk2] at this ⊢
      exact this
    · have hk' : k < parts.size := by simpa using hk
      have := hρ (parts[k]).2
      simpa [List.getD, hk'] using this
  unfold resPlaces at hpl
  split at hpl
  · rename_i fs hu
    simp only [Option.bind_eq_some_iff] at hpl
    obtain ⟨all, hall, hks⟩ := hpl
    obtain ⟨hl1, hget⟩ := mapM_get hks
    obtain ⟨rs, h1, h2, h3⟩ := key (fun k => all.toArray[k]?) (fun k hk => by
      have hk2 : k < parts.size := by simpa using hk
      obtain ⟨b, hb, hb'⟩ := hget k (parts[k]).1 (by simp [hk2])
      simp [List.getD, hk2, hb', hb])
    refine .same (cv := .agg rs) hs (run_build w t _ rs ?_) (.agg _ _ h2 h3)
    unfold Program.built
    simp only [hi, hu, hzz, hall]
    exact h1
  · rename_i n e hu
    simp only [Option.bind_eq_some_iff, Option.some.injEq] at hpl
    obtain ⟨ie, hie, rfl⟩ := hpl
    obtain ⟨rs, h1, h2, h3⟩ := key (fun k => some (k * ie.size, ie.size)) (fun k hk => by
      have hk2 : k < parts.size := by simpa using hk
      simp [List.getD, hk2])
    refine .same (cv := .agg rs) hs (run_build w t _ rs ?_) (.agg _ _ h2 h3)
    unfold Program.built
    simp only [hi, hu, hzz, hie]
    exact h1
  · cases hpl

end
end Go.Proofs.Ago
