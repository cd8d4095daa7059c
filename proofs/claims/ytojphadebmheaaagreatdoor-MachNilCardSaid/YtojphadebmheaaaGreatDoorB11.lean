/- Slices of literals, append, make, cuts of slices, bytes as a string. -/
import Derived.Test.YtojphadebmheaaaGreatDoorB10
namespace Go.Proofs.Ago
open Go
variable {P : Program}
section
variable {B : Base} {φ : Phi} {μ : Mu} {st : Store} {w : World}

/-- A new block that is never written. -/
theorem Sim.frozenNew (h : Sim B φ μ st w) (cs : Array Value) (T : TypeId) :
    ∃ μ', Sim B φ μ' st (w.alloc (.cells cs T (0, 0))) ∧ Ext φ μ φ μ' ∧ ∀ o, o < cs.size → μ' w.heap.size o = some (cs.getD o undef) := by
  have hg := Grows.alloc w (.cells cs T (0, 0))
  let μ' : Mu := fun b o => if b = w.heap.size then (if o < cs.size then some (cs.getD o undef) else none) else μ b o
  have hother : ∀ b o, b ≠ w.heap.size → μ' b o = μ b o := fun b o hb => by simp [μ', hb]
  have hext : Ext φ μ φ μ' := ⟨fun _ _ h => h, fun b o v hm => by
    have := h.mu_lt hm
    rw [hother b o (by omega)]; exact hm⟩
  refine ⟨μ', ⟨fun b o v hm => ?_, fun i e xs r hi => ?_, h.inj, h.own, fun b hb => ?_, fun b hb => ?_, fun b o hb => ?_, h.dom, h.fresh, h.hid, h.io.trans hg.io⟩, hext, fun o ho => by simp [μ', ho]⟩
  · by_cases hb : b = w.heap.size
    · subst hb
      simp only [μ', if_true] at hm
      split at hm <;> try (cases hm; done)
      rename_i ho
      injection hm with hm; subst hm
      simp only [World.cell?, alloc_new]
      simp [ho]
    · rw [hother b o hb] at hm
      rw [cell_of_heap (hg.2 b (h.mu_lt hm))]; exact h.mem b o v hm
  · obtain ⟨p, cs', T', hr⟩ := h.rows i e xs r hi
    refine ⟨p, cs', T', hr.mono hext (hg.2 _ hr.lt) fun o v hm => ?_⟩
    rw [hother _ o (Nat.ne_of_lt hr.lt)] at hm
    exact hr.mu o v hm
  · rw [hg.2 b (h.lt b hb)]; exact h.frame b hb
  · exact Nat.lt_of_lt_of_le (h.lt b hb) hg.1
  · rw [hother b o (Nat.ne_of_lt (h.lt b hb))]; exact h.mu b o hb

/-- A row takes another number. -/
theorem Sim.rename (h : Sim B φ μ st w) {b e : Nat} {ro : Ro} {xs : List AV} {p : Place} (hb : st[b]? = some (Blk.row e xs ro)) (hp : φ b = some p) {sl : Option Nat} {c : Nat} {st1 : Store} {ro2 : Ro} (hr2 : ro2.n = ro.n) (ht2 : ∀ t, ro2.ty = some t → ro.ty = some t) (hn : newBlk (st.set b .dead) sl (.row e xs ro2) = some (c, st1)) :
    Sim B (φ.put c p) μ st1 w ∧ Ext φ μ (φ.put c p) μ := by
  have hd := h.drop b
  obtain ⟨hφ, hget, hlen, hbl, hdead⟩ := newBlk_spec hd hn
  have hx := Phi.put_ext (μ := μ) hφ p
  have hset : ∀ i e' ys r, (st.set b Blk.dead)[i]? = some (Blk.row e' ys r) → i ≠ b ∧ st[i]? = some (Blk.row e' ys r) := fun i e' ys r hi => by
    by_cases hib : i = b
    · subst hib
      have hl : i < st.length := (List.getElem?_eq_some_iff.1 hb).1
      rw [List.getElem?_set_self hl] at hi
      cases hi
    · rw [List.getElem?_set_ne (Ne.symm hib)] at hi
      exact ⟨hib, hi⟩
  have hnew : ∀ i e' ys r, st1[i]? = some (Blk.row e' ys r) → (i ≠ c ∧ i ≠ b ∧ st[i]? = some (Blk.row e' ys r)) ∨ (i = c ∧ e' = e ∧ ys = xs ∧ r = ro2) := fun i e' ys r hi => by
    rcases hget i _ hi with ⟨h1, h2⟩ | ⟨h1, h2⟩
    · obtain ⟨h3, h4⟩ := hset i _ _ _ h2
      exact .inl ⟨h1, h3, h4⟩
    · injection h2 with h3 h4 h5
      exact .inr ⟨h1, h3, h4, h5⟩
  have hold : ∀ i, i ≠ c → (φ.put c p) i = φ i := fun i hi => by simp [Phi.put, hi]
  have hput : (φ.put c p) c = some p := by simp [Phi.put]
  refine ⟨⟨h.mem, fun i e' ys r hi => ?_, fun i j e1 ys r1 e2 ys' r2 q q' hi hj hq hq' hqq => ?_, fun i e' ys r q hi hq => ?_, h.frame, h.lt, h.mu, fun i q hq => ?_, fun i hi => ?_, fun i hi => by
    obtain ⟨h1, h2⟩ := hd.hid i hi
    obtain ⟨h3, h4⟩ := hdead i h1
    exact ⟨h4, by rw [hold i h3]; exact h2⟩, h.io⟩, hx⟩
  · rcases hnew i e' ys r hi with ⟨_, _, hi⟩ | ⟨rfl, rfl, rfl, rfl⟩
    · obtain ⟨q, cs', T', hr'⟩ := h.rows i e' ys r hi
      exact ⟨q, cs', T', hr'.mono hx rfl hr'.mu⟩
    · obtain ⟨q, cs, T, hr⟩ := h.rows _ _ _ _ hb
      obtain rfl : q = p := Option.some.inj (hr.at_.symm.trans hp)
      exact ⟨q, cs, T, hput, hr.esz_, hr.heap, hr.size, hr.len, by rw [hr2]; exact hr.ro_, hr.els, fun k j hk hj => (hr.rel k j hk hj).mono hx, fun o v hm => by rw [hr2]; exact hr.mu o v hm, fun t ht => hr.ty_ t (ht2 t ht)⟩
  · rcases hnew i _ _ _ hi with ⟨hil, hib, hi⟩ | ⟨rfl, _, _, _⟩ <;> rcases hnew j _ _ _ hj with ⟨hjl, hjb, hj⟩ | ⟨rfl, _, _, _⟩
    · rw [hold i hil] at hq; rw [hold j hjl] at hq'
      exact h.inj i j _ _ _ _ _ _ q q' hi hj hq hq' hqq
    · rw [hold i hil] at hq; rw [hput] at hq'; cases hq'
      exact absurd (h.inj i b _ _ _ _ _ _ q p hi hb hq hp hqq) hib
    · rw [hold j hjl] at hq'; rw [hput] at hq; cases hq
      exact absurd (h.inj j b _ _ _ _ _ _ q' p hj hb hq' hp hqq.symm) hjb
    · rfl
  · rcases hnew i _ _ _ hi with ⟨hil, _, hi⟩ | ⟨rfl, _, _, _⟩
    · rw [hold i hil] at hq
      exact h.own i _ _ _ q hi hq
    · rw [hput] at hq; cases hq
      exact h.own b _ _ _ p hb hp
  · by_cases hi' : i = c
    · subst hi'; exact hbl
    · rw [hold i hi'] at hq
      have := hd.dom i q hq
      exact hlen i this
  · rcases hget i _ hi with ⟨h1, h2⟩ | ⟨h1, h2⟩
    · rw [hold i h1]; exact hd.fresh i h2
    · cases h2

/-! ### What is appended -/

theorem goodEls_spec {esz : Nat} {xs : List AV} (h : goodEls esz xs = true) (k : Nat) (hk : k < xs.length) : (xs.getD k .unk).cells.length = esz ∧ (xs.getD k .unk).cells.all AV.one = true := by
  have := List.all_eq_true.1 h (xs[k]) (by simp)
  simp only [Bool.and_eq_true, beq_iff_eq] at this
  simpa [List.getD, hk] using this

/-- The cells of some elements, laid out one behind the other. -/
def flat (n esz : Nat) (c : Nat → Nat → Value) : List Value := (List.range (n * esz)).map fun i => c (i / esz) (i % esz)

theorem flat_length (n esz : Nat) (c : Nat → Nat → Value) : (flat n esz c).length = n * esz := by simp [flat]

theorem flat_get {n esz : Nat} {c : Nat → Nat → Value} {k j : Nat} (hk : k < n) (hj : j < esz) : (flat n esz c).getD (k * esz + j) undef = c k j := by
  have h1 : k * esz + j < n * esz := row_fit hk hj (Nat.le_refl _)
  have h2 : (k * esz + j) / esz = k := by
    rw [Nat.mul_comm, Nat.mul_add_div (by omega)]
    simp [Nat.div_eq_of_lt hj]
  have h3 : (k * esz + j) % esz = j := by
    rw [Nat.mul_comm, Nat.mul_add_mod]
    exact Nat.mod_eq_of_lt hj
  simp [flat, List.getD, h1, h2, h3]

theorem flat_idx {n esz i : Nat} (h : i < n * esz) : i / esz < n ∧ i % esz < esz ∧ i = (i / esz) * esz + i % esz := by
  have h0 : 0 < esz := by
    rcases Nat.eq_zero_or_pos esz with h0 | h0
    · subst h0; simp at h
    · exact h0
  refine ⟨Nat.div_lt_of_lt_mul (by rwa [Nat.mul_comm] at h), Nat.mod_lt _ h0, ?_⟩
  rw [Nat.mul_comm]
  exact (Nat.div_add_mod i esz).symm

theorem src_sound {x : AV} {c : Value} {ys : List AV} {esz : Nat} {u e' : TypeId} (h : srcOf st x = some ys) (hx : VRel φ μ x c) (hs : Sim B φ μ st w) (hg : goodEls esz ys = true)
    (hu : (P.underlying u = some (.slice e') ∧ (∀ s, x ≠ .str s)) ∨ (P.underlying u = some .string ∧ (∃ s, x = .str s) ∧ esz = 1)) :
    ∃ f : Nat → Nat → Value, Src P esz u c ys.length (flat ys.length esz f) w ∧ ∀ k j, k < ys.length → j < esz → VRel φ μ ((ys.getD k .unk).cells.getD j .unk) (f k j) := by
  have one : ∀ f : Nat → Nat → Value, (∀ k j, k < ys.length → j < esz → VRel φ μ ((ys.getD k .unk).cells.getD j .unk) (f k j)) → ∀ v ∈ flat ys.length esz f, v.oneCell' = true := fun f hf v hv => by
    obtain ⟨i, hi, rfl⟩ := List.mem_map.1 hv
    obtain ⟨h1, h2, _⟩ := flat_idx (List.mem_range.1 hi)
    obtain ⟨g1, g2⟩ := goodEls_spec hg _ h1
    have hr := hf _ _ h1 h2
    refine (hr.one ?_).1
    have hlt : i % esz < (ys.getD (i / esz) .unk).cells.length := by omega
    have := List.all_eq_true.1 g2 ((ys.getD (i / esz) .unk).cells[i % esz]) (by simp)
    have hq : (ys.getD (i / esz) .unk).cells.getD (i % esz) .unk = (ys.getD (i / esz) .unk).cells[i % esz] := by
      rw [List.getD_eq_getElem?_getD, List.getElem?_eq_getElem hlt]; rfl
    rw [hq]; exact this
  have mem : ∀ (blk base cap : Nat) (f : Nat → Nat → Value), P.underlying u = some (.slice e') → (∀ k j, k < ys.length → j < esz → w.cell? ⟨blk, base + k * esz + j, none⟩ = some (f k j)) →
      (∀ k j, k < ys.length → j < esz → VRel φ μ ((ys.getD k .unk).cells.getD j .unk) (f k j)) → Src P esz u (.slice (some ⟨blk, base, none⟩) ys.length cap) ys.length (flat ys.length esz f) w := fun blk base cap f hu hc hf =>
    Src.ofSlice w hu _ _ _ _ (flat_length _ _ _) (fun i v hv => by
      obtain ⟨hlt, he⟩ := List.getElem?_eq_some_iff.1 hv
      simp [flat] at hlt he
      obtain ⟨h1, h2, h3⟩ := flat_idx hlt
      rw [Addr.add_mid, ← he, ← hc _ _ h1 h2]
      congr 2
      omega) (one f hf)
  unfold srcOf at h
  split at h
  · injection h with h; subst h
    rename_i f ys
    have hu' : P.underlying u = some (.slice e') := hu.elim (·.1) (fun h => by obtain ⟨_, ⟨s, hs⟩, _⟩ := h; cases hs)
    rcases hx.vsl_inv with ⟨rfl, rfl⟩ | ⟨blk, base, cap, esz', g, hm, hl, hr, _, _, rfl⟩
    · exact ⟨fun _ _ => undef, by simpa [flat] using Src.ofNil (size := esz) w hu' 0, fun k j hk => by simp at hk⟩
    · have hesz : ∀ k, k < ys.length → esz' = esz := fun k hk => by rw [← hl k hk, (goodEls_spec hg k hk).1]
      refine ⟨g, mem blk base cap g hu' (fun k j hk hj => ?_) (fun k j hk hj => ?_), fun k j hk hj => ?_⟩
      · rw [← hesz k hk]; exact hs.mem _ _ _ (hm k j hk (by rw [hesz k hk]; exact hj))
      · exact .pure (hr k j hk (by rw [hesz k hk]; exact hj))
      · exact .pure (hr k j hk (by rw [hesz k hk]; exact hj))
  · injection h with h; subst h
    have hu' : P.underlying u = some (.slice e') := hu.elim (·.1) (fun h => by obtain ⟨_, ⟨s, hs⟩, _⟩ := h; cases hs)
    rw [hx.nils_inv]
    exact ⟨fun _ _ => undef, by simpa [flat] using Src.ofNil (size := esz) w hu' 0, fun k j hk => by simp at hk⟩
  · rename_i b off len
    have hu' : P.underlying u = some (.slice e') := hu.elim (·.1) (fun h => by obtain ⟨_, ⟨s, hs⟩, _⟩ := h; cases hs)
    split at h <;> try (cases h; done)
    rename_i e xs ro hb
    split at h <;> try (cases h; done)
    rename_i hfit
    injection h with h; subst h
    obtain ⟨p, hp, hcap, rfl⟩ := hx.osl_inv
    obtain ⟨q, cs, T, hr⟩ := hs.rows _ _ _ _ hb
    obtain rfl : q = p := Option.some.inj (hr.at_.symm.trans hp)
    have hlen : ((xs.drop off).take len).length = len := by simp; omega
    have hel : ∀ i, i < len → ((xs.drop off).take len).getD i .unk = xs.getD (off + i) .unk := fun i hi => by
      simp [List.getD, List.getElem?_take, hi]
    rw [hlen] at mem ⊢
    have hesz : ∀ k, k < len → e = esz := fun k hk => by
      have := (goodEls_spec hg k (by omega)).1
      rw [hel k hk] at this
      rw [← this, hr.els _ (by omega)]
    have hR : ∀ k j, k < len → j < esz → VRel φ μ ((((xs.drop off).take len).getD k .unk).cells.getD j .unk) (cs.getD ((off + k) * esz + j) undef) := fun k j hk hj => by
      rw [hel k hk]
      have he := hesz k hk
      subst he
      exact hr.rel (off + k) j (by omega) hj
    refine ⟨fun k j => cs.getD ((off + k) * esz + j) undef, mem q.blk (off * q.esz) _ _ hu' (fun k j hk hj => ?_) hR, hR⟩
    have he := hesz k hk
    subst he
    rw [hr.esz_, show off * e + k * e + j = (off + k) * e + j from by rw [Nat.add_mul]]
    exact heap_cell hr _ (by rw [hr.size]; exact row_fit (n := xs.length) (by omega) hj hr.len)
  · rename_i b i off len
    have hu' : P.underlying u = some (.slice e') := hu.elim (·.1) (fun h => by obtain ⟨_, ⟨s, hs⟩, _⟩ := h; cases hs)
    split at h <;> try (cases h; done)
    rename_i e xs ro hb
    simp only [Option.bind_eq_some_iff] at h
    obtain ⟨el, hel, h⟩ := h
    split at h <;> try (cases h; done)
    rename_i hfit
    injection h with h; subst h
    obtain ⟨p, cap, hp, rfl⟩ := hx.asl_inv
    obtain ⟨q, cs, T, hr⟩ := hs.rows _ _ _ _ hb
    obtain rfl : q = p := Option.some.inj (hr.at_.symm.trans hp)
    obtain ⟨hlt, _⟩ := List.getElem?_eq_some_iff.1 hel
    have hd : xs.getD i .unk = el := by simp [List.getD, hel]
    have hlen := hr.els i hlt
    rw [hd] at hlen
    obtain ⟨hfit, hone⟩ := hfit
    have hl : ((el.cells.drop off).take len).length = len := by simp; omega
    have hget : ∀ k, k < len → ((el.cells.drop off).take len).getD k .unk = el.cells.getD (off + k) .unk := fun k hk => by
      simp only [List.getD, List.getElem?_take, if_pos hk, List.getElem?_drop]
    have hcell : ∀ k, k < len → (((el.cells.drop off).take len).getD k .unk).cells = [((el.cells.drop off).take len).getD k .unk] := fun k hk => by
      refine cells_single fun zs hz => ?_
      have := List.all_eq_true.1 hone (((el.cells.drop off).take len)[k]'(by omega)) (List.getElem_mem _)
      have e1 : ((el.cells.drop off).take len).getD k .unk = ((el.cells.drop off).take len)[k]'(by omega) := by
        rw [List.getD_eq_getElem?_getD, List.getElem?_eq_getElem (by omega)]; rfl
      rw [← e1, hz] at this
      simp [AV.one] at this
    rw [hl] at mem ⊢
    have hesz : ∀ k, k < len → esz = 1 := fun k hk => by
      have := (goodEls_spec hg k (by omega)).1
      rw [hcell k hk] at this
      simpa using this.symm
    have hR : ∀ k j, k < len → j < esz → VRel φ μ ((((el.cells.drop off).take len).getD k .unk).cells.getD j .unk) (cs.getD (i * e + (off + k)) undef) := fun k j hk hj => by
      have h1 := hesz k hk
      subst h1
      rw [hcell k hk, getD_one _ _ _ hj, hget k hk, ← hd]
      exact hr.rel i (off + k) hlt (by omega)
    refine ⟨fun k j => cs.getD (i * e + (off + k)) undef, mem q.blk (i * q.esz + off) _ _ hu' (fun k j hk hj => ?_) hR, hR⟩
    have h1 := hesz k hk
    subst h1
    have h0 : j = 0 := by omega
    subst h0
    rw [hr.esz_, show i * e + off + k * 1 + 0 = i * e + (off + k) from by omega]
    exact heap_cell hr _ (by rw [hr.size]; exact row_fit (n := xs.length) hlt (by omega) hr.len)
  · rename_i s
    injection h with h; subst h
    obtain ⟨hu', _, rfl⟩ := hu.resolve_left (fun h => h.2 _ rfl)
    obtain ⟨bs, rfl, rfl⟩ := hx.str_inv
    have hF : flat (bs.data.toList.map fun c => AV.int .u8 c.toNat).length 1 (fun k _ => .int .u8 (bs.data.toList.getD k 0).toNat) = byteCells bs := by
      unfold byteCells
      apply List.ext_getElem?
      intro i
      by_cases h3 : i < bs.data.size
      · have h4 : i < bs.size := h3
        simp [flat, List.getD, h3, h4]
      · have h4 : ¬ i < bs.size := h3
        simp [flat, h3, h4]
    refine ⟨fun k _ => .int .u8 (bs.data.toList.getD k 0).toNat, ?_, fun k j hk hj => ?_⟩
    · rw [hF]
      have := Src.ofString (P := P) w hu' bs
      simpa using this
    · have h3 : k < bs.data.toList.length := by simpa using hk
      have : j = 0 := by omega
      subst this
      have h4 : k < bs.data.size := by simpa using h3
      simp only [List.getD, List.getElem?_map, h3, List.getElem?_eq_getElem, Option.map_some, Option.getD_some, AV.cells]
      simpa using vint (φ := φ) (μ := μ) .u8 _
  · cases h

end
end Go.Proofs.Ago
