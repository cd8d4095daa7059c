/- The operations that make memory, read it, write it. -/
import Derived.Test.YtojphadebmheaaaGreatDoorB8
namespace Go.Proofs.Ago
open Go
variable {P : Program}
section
variable {B : Base} {φ : Phi} {μ : Mu} {st : Store} {w : World}

theorem getD_one {α : Type} (v d : α) (j : Nat) (h : j < 1) : [v].getD j d = v := by
  have : j = 0 := by omega
  subst this; rfl

/-- A new variable. -/
theorem new_row {t : TypeId} {a : AV} {x : Value} (ha : VRel φ μ a x) (h1 : a.cells.all AV.one = true) (hs : Sim B φ μ st w) {sl : Option Nat} {b : Nat} {st1 : Store} {ty : Option Nat} (hty : ∀ t', ty = some t' → t = t') (hn : newBlk st sl (.row a.cells.length [a] ⟨0, ty⟩) = some (b, st1)) :
    OutV P B φ μ (do pure (.pointer (some (← newVar t x)))) (.ptr b 0 0) st1 w := by
  obtain ⟨hsz, hr, _⟩ := ha.cells h1
  obtain ⟨hp, hx⟩ := hs.new a.cells.length 1 [a] x.cells t (by omega) (by simp) (fun k hk => by rw [getD_one _ _ _ (by simpa using hk)])
    (fun k j hk hj => by
      have : k = 0 := by simpa using hk
      subst this
      have := hr j hj
      simpa using this) ⟨0, ty⟩ (by simp) hty hn
  refine .mk (cv := .pointer (some ⟨w.heap.size, 0, none⟩)) (w' := w.alloc (.cells x.cells t (0, 0))) (by simp [newVar, newRow]) ?_ hp hx
  have := VRel.ptr (φ := φ.put b ⟨w.heap.size, 1, a.cells.length⟩) (μ := μ) b 0 0 ⟨w.heap.size, 1, a.cells.length⟩ (by simp [Phi.put])
  simpa using this

theorem newBlk_map {sl : Option Nat} {blk : Blk} {g : Nat → AV} {v : AV} {st' : Store} (h : (newBlk st sl blk).map (fun x => (g x.1, x.2)) = some (v, st')) : ∃ b, newBlk st sl blk = some (b, st') ∧ v = g b := by
  simp only [Option.map_eq_some_iff, Prod.mk.injEq] at h
  obtain ⟨⟨b, s⟩, h1, rfl, rfl⟩ := h
  exact ⟨b, h1, rfl⟩

theorem s_box {t : TypeId} {a : AV} {x : Value} {sl : Option Nat} {v : AV} {st' : Store} (h : rBox st sl (some t) [a] = some (v, st')) (ha : VRel φ μ a x) (hs : Sim B φ μ st w) : OutV P B φ μ (Instr.box t x) v st' w := by
  simp only [rBox] at h
  split at h <;> try (cases h; done)
  rename_i h1
  obtain ⟨b, hn, rfl⟩ := newBlk_map (g := fun b => .ptr b 0 0) h
  exact new_row ha h1 hs (fun _ h => by injection h) hn

theorem s_alloc {t : TypeId} {z : AV} (hz : zeroA P t = some z) {sl : Option Nat} {v : AV} {st' : Store} (h : rBox st sl (some t) [z] = some (v, st')) (hs : Sim B φ μ st w) : OutV P B φ μ (Instr.alloc t true (.tuple #[])) v st' w := by
  unfold zeroA at hz
  cases hi : P.info? t with
  | none => simp [hi] at hz
  | some i =>
    cases hzz : i.zero with
    | none => simp [hi, hzz] at hz
    | some zv =>
      simp [hi, hzz] at hz
      subst hz
      simp only [rBox] at h
      split at h <;> try (cases h; done)
      rename_i h1
      obtain ⟨b, hn, rfl⟩ := newBlk_map (g := fun b => .ptr b 0 0) h
      obtain ⟨cv, w', φ', μ', hr, h2⟩ := new_row (P := P) (t := t) (φ := φ) (μ := μ) (.pure (absV_rel μ zv)) h1 hs (fun _ h => by injection h) hn
      refine ⟨cv, w', φ', μ', ?_, h2⟩
      simp only [Instr.alloc, Sem.run_bind, zeroValue, typeInfo, run_program, hi, hzz, Sem.run_pure, Result.andThen_ok]
      simpa using hr

theorem heap_cell {φ : Phi} {μ : Mu} {w : World} {i esz : Nat} {xs : List AV} {ro : Ro} {p : Place} {cs : Array Value} {T : TypeId} (hr : RowOk φ μ w i esz xs ro p cs T) (o : Nat) (ho : o < cs.size) :
    w.cell? ⟨p.blk, o, none⟩ = some (cs.getD o undef) := by
  simp [World.cell?, hr.heap, ho]

theorem row_fit {esz n cap k j : Nat} (hk : k < n) (hj : j < esz) (hn : n ≤ cap) : k * esz + j < cap * esz := by
  calc k * esz + j < k * esz + esz := by omega
    _ = (k + 1) * esz := by rw [Nat.add_mul, Nat.one_mul]
    _ ≤ cap * esz := Nat.mul_le_mul_right _ (by omega)

/-- Cells that lie in memory, loaded as a value of a type. -/
theorem run_load_lay {t : TypeId} {l : Option Nat} (hl : layOf P t = some l) {blk base off : Nat} {cs : List AV} {f : Nat → Value} (hm : ∀ j, j < cs.length → w.cell? ⟨blk, base + j, none⟩ = some (f j))
    (hc : ∀ j, j < cs.length → VRel φ μ (cs.getD j .unk) (f j)) {r : AV} (hr : ldc l cs off = some r) :
    ∃ c, (Instr.loadAt t (.pointer (some ⟨blk, base + off, none⟩))).run P w = .ok c w ∧ VRel φ μ r c := by
  have hrel := ldc_rel hr hc
  cases l with
  | none =>
    obtain ⟨d, hd, hrow⟩ := layOf_none hl
    obtain ⟨hlt, hrel⟩ := hrel
    refine ⟨_, ?_, hrel⟩
    simp [Instr.loadAt, Instr.sureAddr, loadVar, run_isAgg hd, hrow, hm off hlt]
  | some n =>
    obtain ⟨d, hd, hrow, hi⟩ := layOf_some hl
    obtain ⟨hle, hrel⟩ := hrel
    refine ⟨_, ?_, hrel⟩
    refine run_loadAt_mid w blk (base + off) t _ d (fun j v hv => ?_) hd hrow (by simpa using hi)
    obtain ⟨hlt, he⟩ := List.getElem?_eq_some_iff.1 hv
    simp at hlt he
    rw [Nat.add_assoc, hm (off + j) (by omega), he]

theorem s_load {t : TypeId} {l : Option Nat} (hl : layOf P t = some l) {a : AV} {x : Value} {v : AV} {st' : Store} (h : rLoad st l [a] = some (v, st')) (ha : VRel φ μ a x) (hs : Sim B φ μ st w) :
    OutV P B φ μ (Instr.loadAt t x) v st' w := by
  unfold rLoad at h
  split at h <;> try (cases h; done)
  · rename_i b i off heq
    simp at heq; subst heq
    split at h <;> try (cases h; done)
    rename_i esz xs ro hb
    simp only [Option.bind_eq_some_iff, Option.map_eq_some_iff, Prod.mk.injEq] at h
    obtain ⟨el, hel, r, hr, rfl, rfl⟩ := h
    obtain ⟨p, hp, rfl⟩ := ha.ptr_inv
    obtain ⟨q, cs, T, hrow⟩ := hs.rows _ _ _ _ hb
    obtain rfl : q = p := Option.some.inj (hrow.at_.symm.trans hp)
    obtain ⟨hlt, _⟩ := List.getElem?_eq_some_iff.1 hel
    have hd : xs.getD i .unk = el := by simp [List.getD, hel]
    have hlen := hrow.els i hlt
    rw [hd] at hlen
    obtain ⟨c, h1, h2⟩ := run_load_lay (P := P) (φ := φ) (μ := μ) (w := w) hl (blk := q.blk) (base := i * esz) (off := off) (cs := el.cells) (f := fun j => cs.getD (i * esz + j) undef)
      (fun j hj => heap_cell hrow _ (by rw [hrow.size]; exact row_fit hlt (by omega) hrow.len)) (fun j hj => by have := hrow.rel i j hlt (by omega); rwa [hd] at this) hr
    rw [hrow.esz_]
    exact .same hs h1 h2
  · rename_i el off heq
    simp at heq; subst heq
    simp only [Option.map_eq_some_iff, Prod.mk.injEq] at h
    obtain ⟨r, hr, rfl, rfl⟩ := h
    obtain ⟨blk, base, g, hm, hg, rfl⟩ := ha.eptr_inv
    obtain ⟨c, h1, h2⟩ := run_load_lay (P := P) (φ := φ) (μ := μ) (w := w) hl (blk := blk) (base := base) (off := off) (cs := el.cells) (f := g)
      (fun j hj => hs.mem _ _ _ (hm j hj)) (fun j hj => .pure (hg j hj)) hr
    exact .same hs h1 h2

theorem splice_length {cs : List AV} {off : Nat} {vs : List AV} (h : off + vs.length ≤ cs.length) : (splice cs off vs).length = cs.length := by
  simp [splice]; omega

theorem splice_getD {cs : List AV} {off : Nat} {vs : List AV} (h : off + vs.length ≤ cs.length) (j : Nat) :
    (splice cs off vs).getD j .unk = if off ≤ j ∧ j < off + vs.length then vs.getD (j - off) .unk else cs.getD j .unk := by
  unfold splice
  simp only [List.getD]
  congr 1
  have e : (cs.take off).length = off := by simp; omega
  by_cases h1 : j < off
  · rw [List.append_assoc, List.getElem?_append_left (by omega), List.getElem?_take, if_pos h1, if_neg (by omega)]
  · by_cases h2 : j < off + vs.length
    · rw [List.append_assoc, List.getElem?_append_right (by omega), List.getElem?_append_left (by omega), if_pos (by omega), e]
    · rw [List.append_assoc, List.getElem?_append_right (by omega), List.getElem?_append_right (by omega), if_neg (by omega), List.getElem?_drop, e]
      rw [show off + vs.length + (j - off - vs.length) = j from by omega]

theorem mkLike_cells {e : AV} {cs : List AV} (h : cs.length = e.cells.length) (h1 : (∃ c, e = .agg c) ∨ cs.all AV.one = true) : (mkLike e cs).cells = cs := by
  unfold mkLike
  split
  · rfl
  · rename_i hn
    rcases h1 with ⟨c, rfl⟩ | h1
    · exact absurd rfl (hn _)
    · simp at h1
      rename_i c
      cases c <;> first | rfl | simp [AV.one] at h1
  · rfl

theorem cells_single {v : AV} (h : ∀ cs, v ≠ .agg cs) : v.cells = [v] := by cases v <;> first | rfl | exact absurd rfl (h _)

/-- Cells written into the middle of a row's cells. -/
theorem mid_getD {cs vs : List Value} {o : Nat} (h : o + vs.length ≤ cs.length) (j : Nat) :
    (cs.take o ++ vs ++ cs.drop (o + vs.length)).toArray.getD j undef = if o ≤ j ∧ j < o + vs.length then vs.getD (j - o) undef else cs.getD j undef := by
  simp only [List.getD, Array.getD_eq_getD_getElem?, List.getElem?_toArray]
  congr 1
  have e : (cs.take o).length = o := by simp; omega
  by_cases h1 : j < o
  · rw [List.append_assoc, List.getElem?_append_left (by omega), List.getElem?_take, if_pos h1, if_neg (by omega)]
  · by_cases h2 : j < o + vs.length
    · rw [List.append_assoc, List.getElem?_append_right (by omega), List.getElem?_append_left (by omega), if_pos (by omega), e]
    · rw [List.append_assoc, List.getElem?_append_right (by omega), List.getElem?_append_right (by omega), if_neg (by omega), List.getElem?_drop, e]
      rw [show o + vs.length + (j - o - vs.length) = j from by omega]

theorem run_store_row {t : TypeId} {n blk o : Nat} {c : Value} {cs : Array Value} {T : TypeId} (hn : sizeA P t = some n) (hc : c.cells.size = n) (h1 : ∀ x ∈ c.cells.toList, x.oneCell' = true)
    (hh : w.heap[blk]? = some (.cells cs T (0, 0))) (hfit : o + n ≤ cs.size) :
    (Instr.storeAt t (.pointer (some ⟨blk, o, none⟩)) c).run P w = .ok () (w.setRow blk (cs.toList.take o ++ c.cells.toList ++ cs.toList.drop (o + c.cells.toList.length)).toArray) := by
  have hst := run_storeCells_at P blk o T c.cells.toList 0 cs w hh (by simp; omega) h1
  simp only [Nat.add_zero] at hst
  simp only [Instr.storeAt, Sem.run_bind, Instr.sureAddr, Sem.run_pure, Result.andThen_ok, storeVar, run_sizeOf hn, hc, ne_eq, not_true_eq_false, if_false]
  simpa using hst

theorem s_store {t : TypeId} {n : Nat} (hn : sizeA P t = some n) {a b : AV} {x y : Value} {v : AV} {st' : Store} (h : rStore st n [a, b] = some (v, st')) (ha : VRel φ μ a x) (hb : VRel φ μ b y) (hs : Sim B φ μ st w) :
    ∃ w', (Instr.storeAt t x y).run P w = .ok () w' ∧ v = undefA ∧ Sim B φ μ st' w' := by
  unfold rStore at h
  split at h <;> try (cases h; done)
  rename_i b0 i off v0 heq
  simp at heq; obtain ⟨rfl, rfl⟩ := heq
  split at h <;> try (cases h; done)
  rename_i esz xs ro hb0
  simp only [Option.bind_eq_some_iff] at h
  obtain ⟨el, hel, h⟩ := h
  split at h <;> try (cases h; done)
  simp only [Option.some.injEq, Prod.mk.injEq] at h
  rename_i hcond
  obtain ⟨hn0, hro, hlen, h1, hfit⟩ := hcond
  obtain ⟨rfl, rfl⟩ := h
  obtain ⟨p, hp, rfl⟩ := ha.ptr_inv
  obtain ⟨q, cs, T, hrow⟩ := hs.rows _ _ _ _ hb0
  obtain rfl : q = p := Option.some.inj (hrow.at_.symm.trans hp)
  obtain ⟨hlt, _⟩ := List.getElem?_eq_some_iff.1 hel
  have hd : xs.getD i .unk = el := by simp [List.getD, hel]
  have hele := hrow.els i hlt
  rw [hd] at hele
  obtain ⟨hcs, hcr, hc1⟩ := hb.cells h1
  have hrf : i * esz + esz ≤ cs.size := by
    rw [hrow.size]
    calc i * esz + esz = (i + 1) * esz := by rw [Nat.add_mul, Nat.one_mul]
      _ ≤ _ := Nat.mul_le_mul_right _ (Nat.le_trans hlt hrow.len)
  refine ⟨_, run_store_row (P := P) (w := w) (o := i * q.esz + off) hn (by omega) hc1 hrow.heap (by rw [hrow.esz_]; omega), rfl, ?_⟩
  rw [hrow.esz_]
  have hvl : y.cells.toList.length = n := by simp; omega
  have hspl : off + b.cells.length ≤ el.cells.length := by omega
  have hmk : (mkLike el (splice el.cells off b.cells)).cells = splice el.cells off b.cells := by
    refine mkLike_cells (splice_length hspl) ?_
    by_cases hag : ∃ c, el = .agg c
    · exact .inl hag
    · right
      have hcl : el.cells = [el] := cells_single fun cs h => hag ⟨cs, h⟩
      rw [hcl] at hspl ⊢
      simp at hspl
      have h0 : b.cells ≠ [] ∨ b.cells = [] := by by_cases h : b.cells = [] <;> simp [h]
      rcases h0 with h0 | h0
      · have : off = 0 := by have := List.length_pos_iff.2 h0; omega
        subst this
        have hl1 : b.cells.length = 1 := by have := List.length_pos_iff.2 h0; omega
        simp [splice, hl1, h1]
      · -- nothing is written: the cell stays
        have : b.cells.length = 0 := by simp [h0]
        omega
  refine hs.setRow hb0 hrow (by simp; omega) (by simpa using hrow.len) (by simpa using hrow.ro_) (fun k hk => ?_) (fun k j hk hj => ?_) (fun o ho => ?_)
  · simp at hk
    by_cases hki : k = i
    · subst hki
      have : (xs.set k (mkLike el (splice el.cells off b.cells))).getD k .unk = mkLike el (splice el.cells off b.cells) := by simp [List.getD, hk]
      rw [this, hmk, splice_length hspl]; exact hele
    · have : (xs.set i (mkLike el (splice el.cells off b.cells))).getD k .unk = xs.getD k .unk := by simp [List.getD, List.getElem?_set_ne (Ne.symm hki)]
      rw [this]; exact hrow.els k hk
  · simp at hk
    rw [mid_getD (by simp; omega)]
    by_cases hki : k = i
    · subst hki
      have : (xs.set k (mkLike el (splice el.cells off b.cells))).getD k .unk = mkLike el (splice el.cells off b.cells) := by simp [List.getD, hk]
      rw [this, hmk, splice_getD hspl]
      by_cases hin : off ≤ j ∧ j < off + b.cells.length
      · rw [if_pos hin, if_pos (by omega)]
        have := hcr (j - off) (by omega)
        rw [show k * esz + j - (k * esz + off) = j - off from by omega]
        simpa using this
      · rw [if_neg hin, if_neg (by omega)]
        have := hrow.rel k j hk hj
        rw [hd] at this
        simpa using this
    · have : (xs.set i (mkLike el (splice el.cells off b.cells))).getD k .unk = xs.getD k .unk := by simp [List.getD, List.getElem?_set_ne (Ne.symm hki)]
      rw [this]
      have hout : ¬ (i * esz + off ≤ k * esz + j ∧ k * esz + j < i * esz + off + y.cells.toList.length) := by
        rcases Nat.lt_or_gt_of_ne hki with hlt' | hgt
        · have : k * esz + esz ≤ i * esz := by
            calc k * esz + esz = (k + 1) * esz := by rw [Nat.add_mul, Nat.one_mul]
              _ ≤ _ := Nat.mul_le_mul_right _ hlt'
          omega
        · have : i * esz + esz ≤ k * esz := by
            calc i * esz + esz = (i + 1) * esz := by rw [Nat.add_mul, Nat.one_mul]
              _ ≤ _ := Nat.mul_le_mul_right _ hgt
          omega
      rw [if_neg hout]
      have := hrow.rel k j hk hj
      simpa using this
  · have hro' : ro.n * esz ≤ i * esz := Nat.mul_le_mul_right _ hro
    have : o < i * esz + off := by omega
    simp only [List.getElem?_toArray]
    rw [List.append_assoc, List.getElem?_append_left (by simp; omega), List.getElem?_take, if_pos this]
    simp

end
end Go.Proofs.Ago
