/- append. -/
import Derived.Test.YtojphadebmheaaaGreatDoorB11
namespace Go.Proofs.Ago
open Go
variable {P : Program}
section
variable {B : Base} {φ : Phi} {μ : Mu} {st : Store} {w : World}

theorem growBy_le (n : Nat) : ∀ (r c : Nat), Builtin.growBy n r c ≤ max c (n + n / 4 + 192)
  | 0, c => by simp [Builtin.growBy]; omega
  | r + 1, c => by
    unfold Builtin.growBy
    split
    · omega
    · have := growBy_le n r (c + (c + 768) / 4)
      omega

theorem nsc_le (need old : Nat) (h : old < need) : Builtin.nextslicecap need old ≤ 2 * need + 192 := by
  unfold Builtin.nextslicecap
  split
  · omega
  · split
    · omega
    · have := growBy_le need 4 old
      omega

theorem fit_of {need old bytes : Nat} (h : old < need) (hb : need * bytes ≤ maxA) : Builtin.nextslicecap need old * bytes ≤ 281474976710656 := by
  have h1 := nsc_le need old h
  have h2 : Builtin.nextslicecap need old * bytes ≤ (2 * need + 192) * bytes := Nat.mul_le_mul_right _ h1
  have h3 : (2 * need + 192) * bytes = 2 * (need * bytes) + 192 * bytes := by rw [Nat.add_mul, Nat.mul_assoc]
  have h4 : bytes ≤ need * bytes := Nat.le_mul_of_pos_left _ (by omega)
  unfold maxA at hb
  omega

theorem grownCap_ge (w : World) (need old : Nat) (e : TypeId) : need ≤ grownCap w need old e := by
  simp [grownCap, Question.cut]

theorem zeroCells_size (z : Array Value) (n : Nat) : (Builtin.zeroCells z n).size = n * z.size := by simp [Builtin.zeroCells]

theorem flat_pre {n esz : Nat} {F : Nat → Nat → Value} {rest : Array Value} {k j : Nat} (hk : k < n) (hj : j < esz) : ((flat n esz F).toArray ++ rest).getD (k * esz + j) undef = F k j := by
  have h1 : k * esz + j < n * esz := row_fit hk hj (Nat.le_refl _)
  have := flat_get (n := n) (c := F) hk hj
  rw [← this]
  have h2 : k * esz + j < (flat n esz F).toArray.size := by simp [flat_length]; exact h1
  simp only [Array.getD_eq_getD_getElem?, Array.getElem?_append_left h2, List.getElem?_toArray, List.getD_eq_getElem?_getD]

theorem flat_app (a b esz : Nat) (f g : Nat → Nat → Value) : flat a esz f ++ flat b esz g = flat (a + b) esz (fun k j => if k < a then f k j else g (k - a) j) := by
  apply List.ext_getElem?
  intro i
  rcases Nat.lt_or_ge i (a * esz) with h | h
  · rw [List.getElem?_append_left (by rw [flat_length]; exact h)]
    obtain ⟨h1, h2, h3⟩ := flat_idx h
    have : i < (a + b) * esz := by rw [Nat.add_mul]; omega
    simp [flat, h, this, h1]
  · rw [List.getElem?_append_right (by rw [flat_length]; exact h), flat_length]
    rcases Nat.lt_or_ge i ((a + b) * esz) with h' | h'
    · have h0 : i - a * esz < b * esz := by rw [Nat.add_mul] at h'; omega
      obtain ⟨h1, h2, h3⟩ := flat_idx h0
      have hq : i / esz = a + (i - a * esz) / esz ∧ i % esz = (i - a * esz) % esz := by
        have he : i = (i - a * esz) + esz * a := by rw [Nat.mul_comm esz a]; omega
        constructor
        · conv => lhs; rw [he]
          rw [Nat.add_mul_div_left _ _ (by omega)]; omega
        · conv => lhs; rw [he]
          rw [Nat.add_mul_mod_self_left]
      obtain ⟨hq1, hq2⟩ := hq
      have hn : ¬ i / esz < a := by rw [hq1]; exact Nat.not_lt.2 (Nat.le_add_right _ _)
      have hs : i / esz - a = (i - a * esz) / esz := by rw [hq1]; exact Nat.add_sub_cancel_left ..
      simp only [flat, List.getElem?_map, List.getElem?_range h0, List.getElem?_range h', Option.map_some, if_neg hn, hs, hq2]
    · have : ¬ i - a * esz < b * esz := by rw [Nat.add_mul] at h'; omega
      simp [flat, this, h']

theorem keep_ty {ro : Ro} {ty t : Nat} (h : (ro.keep ty).ty = some t) : ro.ty = some t := by
  unfold Ro.keep at h
  dsimp only at h
  split at h
  · rename_i h1; rw [h1]; exact h
  · cases h

theorem keep_eq {ro : Ro} {ty t : Nat} (h : (ro.keep ty).ty = some t) : ty = t := by
  unfold Ro.keep at h
  dsimp only at h
  split at h
  · injection h
  · cases h

/-- A new row is made for what is there and what is appended. -/
theorem grow_sound {t u ty e : TypeId} {i : TypeInfo} {z : Value} (ht : P.underlying t = some (.slice e)) (hi : P.info? e = some i) (hz : i.zero = some z) (hzs : z.cells.size = i.size)
    {base : Option Addr} {sCap : Nat} {x : Value} {zs ys : List AV} {f g : Nat → Nat → Value} (hd : (Builtin.firstCells i.size zs.length (.slice base zs.length sCap)).run P w.drew = .ok (flat zs.length i.size f).toArray w.drew) (hsrc : Src P i.size u x ys.length (flat ys.length i.size g) w)
    (hf : ∀ k j, k < zs.length → j < i.size → VRel φ μ ((zs.getD k .unk).cells.getD j .unk) (f k j)) (hg : ∀ k j, k < ys.length → j < i.size → VRel φ μ ((ys.getD k .unk).cells.getD j .unk) (g k j))
    (hel : ∀ k, k < (zs ++ ys).length → ((zs ++ ys).getD k .unk).cells.length = i.size)
    (hcap : sCap < zs.length + ys.length) (hb : (zs.length + ys.length) * i.bytes ≤ maxA) (hm : zs.length + ys.length ≤ maxA) (ro : Ro) (hro : ro.n ≤ (zs ++ ys).length) (hty : ∀ t, ro.ty = some t → e = t) (hs : Sim B φ μ st w) {sl : Option Nat} {b : Nat} {st1 : Store} (hn : newBlk st sl (.row i.size (zs ++ ys) ro) = some (b, st1)) :
    OutV P B φ μ (Builtin.append_ #[t, u] ty #[.slice base zs.length sCap, x]) (.osl b 0 (zs.length + ys.length)) st1 w := by
  have hrun := run_append_grow_src w t u ty e i z ht hi hz base zs.length sCap (flat zs.length i.size f) hd x ys.length (flat ys.length i.size g) hsrc hcap
    (by unfold maxA at hm; omega) (fit_of hcap hb)
  rw [flat_app] at hrun
  have hge := grownCap_ge w (zs.length + ys.length) sCap e
  generalize grownCap w (zs.length + ys.length) sCap e = cap at hrun hge
  obtain ⟨hp, he⟩ := (hs.drew).new i.size cap (zs ++ ys) ((flat (zs.length + ys.length) i.size (fun k j => if k < zs.length then f k j else g (k - zs.length) j)).toArray ++ Builtin.zeroCells z.cells (cap - (zs.length + ys.length))) e
    (by
      rw [Array.size_append, zeroCells_size, hzs]
      simp only [List.size_toArray, flat_length]
      rw [← Nat.add_mul]; congr 1; omega) (by simpa using hge) hel (fun k j hk hj => by
      rw [flat_pre (by simpa using hk) hj]
      by_cases hkz : k < zs.length
      · rw [if_pos hkz]
        have : (zs ++ ys).getD k .unk = zs.getD k .unk := by simp [List.getD, List.getElem?_append_left hkz]
        rw [this]; exact hf k j hkz hj
      · rw [if_neg hkz]
        have : (zs ++ ys).getD k .unk = ys.getD (k - zs.length) .unk := by simp [List.getD, List.getElem?_append_right (Nat.le_of_not_lt hkz)]
        rw [this]; exact hg _ j (by simp at hk; omega) hj) ro hro hty hn
  refine .mk hrun ?_ hp he
  have := VRel.osl (φ := φ.put b ⟨w.drew.heap.size, cap, i.size⟩) (μ := μ) b 0 (zs.length + ys.length) ⟨w.drew.heap.size, cap, i.size⟩ (by simp [Phi.put]) (by simpa using hge)
  simpa using this

/-- Elements are laid into a row. -/
theorem row_write {b esz : Nat} {ro : Ro} {xs ys : List AV} {p : Place} {cs : Array Value} {T : TypeId} (hb : st[b]? = some (Blk.row esz xs ro)) (hr : RowOk φ μ w b esz xs ro p cs T) {s : Nat} (hsx : s ≤ xs.length) (hro : ro.n ≤ s)
    (hcap : s + ys.length ≤ p.cap) (hg : goodEls esz ys = true) {f : Nat → Nat → Value} (hf : ∀ k j, k < ys.length → j < esz → VRel φ μ ((ys.getD k .unk).cells.getD j .unk) (f k j)) (hs : Sim B φ μ st w) :
    Sim B φ μ (st.set b (Blk.row esz (xs.take s ++ ys ++ xs.drop (s + ys.length)) ro))
      (w.setRow p.blk (cs.toList.take (s * esz) ++ flat ys.length esz f ++ cs.toList.drop (s * esz + (flat ys.length esz f).length)).toArray) := by
  have hsz := hr.size
  have hfit : s * esz + (flat ys.length esz f).length ≤ cs.toList.length := by
    rw [flat_length, ← Nat.add_mul]
    have := Nat.mul_le_mul_right esz hcap
    simp; omega
  have hlen : (xs.take s ++ ys ++ xs.drop (s + ys.length)).length = max xs.length (s + ys.length) := by simp; omega
  have hgetx : ∀ k, (xs.take s ++ ys ++ xs.drop (s + ys.length)).getD k .unk = if s ≤ k ∧ k < s + ys.length then ys.getD (k - s) .unk else xs.getD k .unk := fun k => by
    have e : (xs.take s).length = s := by simp; omega
    simp only [List.getD]
    congr 1
    by_cases h1 : k < s
    · rw [List.append_assoc, List.getElem?_append_left (by omega), List.getElem?_take, if_pos h1, if_neg (by omega)]
    · by_cases h2 : k < s + ys.length
      · rw [List.append_assoc, List.getElem?_append_right (by omega), List.getElem?_append_left (by omega), if_pos (by omega), e]
      · rw [List.append_assoc, List.getElem?_append_right (by omega), List.getElem?_append_right (by omega), if_neg (by omega), List.getElem?_drop, e]
        rw [show s + ys.length + (k - s - ys.length) = k from by omega]
  refine hs.setRow hb hr (by simp at hfit ⊢; omega) (by rw [hlen]; have := hr.len; omega) (by rw [hlen]; omega) (fun k hk => ?_) (fun k j hk hj => ?_) (fun o ho => ?_)
  · rw [hgetx]
    rw [hlen] at hk
    by_cases hin : s ≤ k ∧ k < s + ys.length
    · rw [if_pos hin]; exact (goodEls_spec hg _ (by omega)).1
    · rw [if_neg hin]; exact hr.els k (by omega)
  · rw [hgetx, mid_getD hfit]
    rw [hlen] at hk
    by_cases hin : s ≤ k ∧ k < s + ys.length
    · have e1 : k * esz + j - s * esz = (k - s) * esz + j := by
        rw [Nat.sub_mul]
        have := Nat.mul_le_mul_right esz hin.1
        omega
      have e2 : (k - s) * esz + j < ys.length * esz := row_fit (n := ys.length) (by omega) hj (Nat.le_refl _)
      have e3 := Nat.mul_le_mul_right esz hin.1
      rw [if_pos hin, if_pos (by rw [flat_length]; omega), e1, flat_get (by omega) hj]
      exact hf _ j (by omega) hj
    · rw [if_neg hin, if_neg ?_]
      · have := hr.rel k j (by omega) hj
        simpa using this
      · rw [flat_length, ← Nat.add_mul]
        rcases Nat.lt_or_ge k s with h | h
        · have : k * esz + j < s * esz := row_fit h hj (Nat.le_refl _)
          omega
        · have := Nat.mul_le_mul_right esz (show s + ys.length ≤ k by omega)
          omega
  · have h1 : ro.n * esz ≤ s * esz := Nat.mul_le_mul_right _ hro
    have : o < s * esz := by omega
    simp only [List.getElem?_toArray]
    rw [List.append_assoc, List.getElem?_append_left (by simp at hfit ⊢; omega), List.getElem?_take, if_pos this]
    simp

theorem setCells_row {blk o : Nat} {vs : List Value} {cs : Array Value} {T : TypeId} (hh : w.heap[blk]? = some (.cells cs T (0, 0))) (hfit : o + vs.length ≤ cs.size) (h1 : ∀ v ∈ vs, v.oneCell' = true) :
    w.setCells blk o vs = w.setRow blk (cs.toList.take o ++ vs ++ cs.toList.drop (o + vs.length)).toArray := by
  have P : Program := default
  have a := run_storeCells_cells (P := P) blk o vs 0 w (fun j hj => by simp [World.cell?, hh]; omega) (fun j hj => by simp [World.frozen?, hh]) h1
  have b := run_storeCells_at P blk o T vs 0 cs w hh (by simpa using hfit) h1
  rw [a] at b
  injection b with _ b

theorem s_append {t u ty e e' : TypeId} {i : TypeInfo} {z : Value} {sb : Bool} (ht : P.underlying t = some (.slice e)) (hu : (sb = false ∧ P.underlying u = some (.slice e')) ∨ (sb = true ∧ P.underlying u = some .string ∧ i.size = 1))
    (hi : P.info? e = some i) (hz : i.zero = some z) (hzs : z.cells.size = i.size) {a b : AV} {x y : Value} {sl : Option Nat} {v : AV} {st' : Store} (h : rAppend st sl i.size i.bytes sb e [a, b] = some (v, st')) (ha : VRel φ μ a x) (hb : VRel φ μ b y)
    (hs : Sim B φ μ st w) : OutV P B φ μ (Builtin.append_ #[t, u] ty #[x, y]) v st' w := by
  simp only [rAppend, Option.bind_eq_some_iff] at h
  obtain ⟨ys, hys, h⟩ := h
  split at h <;> try (cases h; done)
  rename_i hc
  obtain ⟨hsb, hgood⟩ := hc
  have hu' : (P.underlying u = some (.slice e') ∧ (∀ s, b ≠ .str s)) ∨ (P.underlying u = some .string ∧ (∃ s, b = .str s) ∧ i.size = 1) := by
    rcases hu with ⟨rfl, hu⟩ | ⟨rfl, hu, h1⟩
    · exact .inl ⟨hu, fun s he => by subst he; simp [isStr] at hsb⟩
    · refine .inr ⟨hu, ?_, h1⟩
      unfold isStr at hsb
      split at hsb
      · exact ⟨_, rfl⟩
      · cases hsb
  obtain ⟨g, hsrc, hg⟩ := src_sound hys hb hs hgood hu'
  have hnothing : ∀ base sLen sCap, sLen ≤ sCap → ys = [] → (Builtin.append_ #[t, u] ty #[.slice base sLen sCap, y]).run P w = .ok (.slice base sLen sCap) w := fun base sLen sCap hle hy => by
    subst hy
    exact run_append_nothing w t u ty e i ht hi base sLen sCap hle y (by simpa [flat] using hsrc)
  unfold rApp at h
  split at h
  · rw [ha.nils_inv]
    split at h
    · injection h with h; injection h with h1 h2; subst h1; subst h2
      exact .same hs (hnothing _ _ _ (Nat.le_refl _) (by assumption)) (.pure .nils)
    · rename_i hne
      split at h <;> try (cases h; done)
      rename_i hbd
      obtain ⟨bn, hn, rfl⟩ := newBlk_map (g := fun b => .osl b 0 ys.length) h
      have hpos : 0 < ys.length := List.length_pos_iff.2 hne
      have hd : Src P i.size t (.slice none 0 0) 0 (flat 0 i.size (fun _ _ => undef)) w := by simpa [flat] using Src.ofNil (size := i.size) w ht 0
      have := grow_sound (B := B) (φ := φ) (μ := μ) (st := st) (w := w) (ty := ty) ht hi hz hzs (zs := []) (ys := ys) hd.cellsD hsrc (fun k j hk => by simp at hk) hg (fun k hk => (goodEls_spec hgood k (by simpa using hk)).1)
        (by simpa using hpos) (by simpa using hbd.1) (by simpa using hbd.2) ⟨0, some e⟩ (Nat.zero_le _) (fun _ h => by injection h) hs (sl := sl) (b := bn) (st1 := st') (by simpa using hn)
      simpa using this
  · rename_i f xs
    split at h
    · injection h with h; injection h with h1 h2; subst h1; subst h2
      rename_i hy
      rcases ha.vsl_inv with ⟨rfl, rfl⟩ | ⟨blk, base, cap, esz, c, _, _, _, _, hcap, rfl⟩
      · exact .same hs (hnothing _ _ _ (Nat.le_refl _) hy) ha
      · exact .same hs (hnothing _ _ _ hcap hy) ha
    · rename_i hne
      split at h <;> try (cases h; done)
      rename_i hbd
      obtain ⟨hfull, hb1, hb2, hgx⟩ := hbd
      obtain ⟨bn, hn, rfl⟩ := newBlk_map (g := fun b => .osl b 0 (xs.length + ys.length)) h
      have hpos : 0 < ys.length := List.length_pos_iff.2 hne
      obtain ⟨f', hd, hf'⟩ := src_sound (P := P) (st := st) (x := .vsl f xs) (ys := xs) (u := t) (e' := e) rfl ha hs hgx (.inl ⟨ht, fun s h => by cases h⟩)
      have hel : ∀ k, k < (xs ++ ys).length → ((xs ++ ys).getD k .unk).cells.length = i.size := fun k hk => by
        by_cases hkz : k < xs.length
        · have : (xs ++ ys).getD k .unk = xs.getD k .unk := by simp [List.getD, List.getElem?_append_left hkz]
          rw [this]; exact (goodEls_spec hgx k hkz).1
        · have : (xs ++ ys).getD k .unk = ys.getD (k - xs.length) .unk := by simp [List.getD, List.getElem?_append_right (Nat.le_of_not_lt hkz)]
          rw [this]; exact (goodEls_spec hgood _ (by simp at hk; omega)).1
      rcases ha.vsl_inv with ⟨rfl, rfl⟩ | ⟨blk, base, cap, esz, c, _, _, _, hcf, hcap, rfl⟩
      · exact grow_sound (zs := []) ht hi hz hzs hd.cellsD hsrc hf' hg hel (by simpa using hpos) hb1 hb2 ⟨0, some e⟩ (Nat.zero_le _) (fun _ h => by injection h) hs hn
      · exact grow_sound ht hi hz hzs hd.cellsD hsrc hf' hg hel (by have := hcf hfull; omega) hb1 hb2 ⟨0, some e⟩ (Nat.zero_le _) (fun _ h => by injection h) hs hn
  · rename_i b0 off len
    obtain ⟨p, hp, hcap, rfl⟩ := ha.osl_inv
    split at h
    · injection h with h; injection h with h1 h2; subst h1; subst h2
      exact .same hs (hnothing _ _ _ (by omega) (by assumption)) ha
    · rename_i hne
      have hpos : 0 < ys.length := List.length_pos_iff.2 hne
      split at h <;> try (cases h; done)
      rename_i e0 xs ro hb0
      split at h <;> try (cases h; done)
      rename_i hc
      obtain ⟨rfl, hro, hfit⟩ := hc
      obtain ⟨q, cs, T, hr⟩ := hs.rows _ _ _ _ hb0
      obtain rfl : q = p := Option.some.inj (hr.at_.symm.trans hp)
      have hroom : off + len + ys.length ≤ q.cap → (Builtin.append_ #[t, u] ty #[.slice (some ⟨q.blk, off * q.esz, none⟩) len (q.cap - off), y]).run P w =
          .ok (.slice (some ⟨q.blk, off * q.esz, none⟩) (len + ys.length) (q.cap - off)) (w.setRow q.blk (cs.toList.take ((off + len) * i.size) ++ flat ys.length i.size g ++ cs.toList.drop ((off + len) * i.size + (flat ys.length i.size g).length)).toArray) := fun hle => by
        have hfit2 : (off + len) * i.size + (flat ys.length i.size g).length ≤ cs.size := by
          rw [flat_length, ← Nat.add_mul, hr.size]
          exact Nat.mul_le_mul_right _ hle
        have e1 : off * q.esz + len * i.size = (off + len) * i.size := by rw [hr.esz_, Nat.add_mul]
        have := run_append_room_src w t u ty e i ht hi q.blk (off * q.esz) len (q.cap - off) y ys.length (flat ys.length i.size g) hsrc (by omega)
          (fun j hj => by
            rw [e1]
            simp [World.cell?, hr.heap]; omega) (fun j hj => by simp [World.frozen?, hr.heap])
        rw [this, e1, setCells_row hr.heap hfit2 hsrc.one]
      split at h
      · rename_i hin
        injection h with h; injection h with h1 h2; subst h1; subst h2
        have hw := row_write hb0 hr (s := off + len) hfit hro (by have := hr.len; omega) hgood hg hs
        exact .mk (hroom (by have := hr.len; omega)) (.osl _ _ _ q hp (by have := hr.len; omega)) hw (Ext.refl _ _)
      · rename_i hout
        split at h <;> try (cases h; done)
        rename_i hc
        obtain ⟨rfl, hb1, hb2⟩ := hc
        obtain ⟨bn, hn, rfl⟩ := newBlk_map (g := fun b => .osl b 0 (len + ys.length)) h
        simp only [Nat.zero_add] at hfit hro hout hcap hroom
        have hbl : b0 < st.length := (List.getElem?_eq_some_iff.1 hb0).1
        by_cases hle : len + ys.length ≤ q.cap
        · have hw := row_write hb0 hr (s := len) hfit hro hle hgood hg hs
          rw [List.drop_of_length_le (by omega : xs.length ≤ len + ys.length), List.append_nil] at hw
          obtain ⟨hw2, hx2⟩ := hw.rename (b := b0) (e := i.size) (xs := xs.take len ++ ys) (ro := ro) (p := q) (List.getElem?_set_self hbl) hp (sl := sl) (c := bn) (st1 := st') (ro2 := ro.keep e) rfl (fun t ht => keep_ty ht) (by rw [List.set_set]; exact hn)
          refine .mk (hroom hle) ?_ hw2 hx2
          have := VRel.osl (φ := φ.put bn q) (μ := μ) bn 0 (len + ys.length) q (by simp [Phi.put]) (by omega)
          simpa using this
        · have hlt : (xs.take len).length = len := by simp; omega
          have hgx : goodEls i.size (xs.take len) = true ∨ True := .inr trivial
          have hget : ∀ k, k < len → (xs.take len).getD k .unk = xs.getD k .unk := fun k hk => by simp [List.getD, List.getElem?_take, hk]
          have hs' := hs.drop b0
          have hf' : ∀ k j, k < (xs.take len).length → j < i.size → VRel φ μ (((xs.take len).getD k .unk).cells.getD j .unk) (cs.getD (k * i.size + j) undef) := fun k j hk hj => by
            rw [hget k (by omega)]; exact hr.rel k j (by omega) hj
          have hcellsrun : ∀ W : World, W.heap[q.blk]? = w.heap[q.blk]? → (Builtin.firstCells i.size len (.slice (some ⟨q.blk, 0 * q.esz, none⟩) len (q.cap - 0))).run P W = .ok (flat len i.size (fun k j => cs.getD (k * i.size + j) undef)).toArray W := fun W hW => by
            refine run_firstCells_some W _ _ _ _ _ _ (flat_length _ _ _) fun idx v hv => ?_
            obtain ⟨hlt', he⟩ := List.getElem?_eq_some_iff.1 hv
            simp [flat] at hlt' he
            obtain ⟨h1, h2, h3⟩ := flat_idx hlt'
            have hlt2 : idx < cs.size := by
              rw [hr.size]
              have := Nat.mul_le_mul_right i.size (show len ≤ q.cap by omega)
              omega
            rw [Addr.add_mid, cell_of_heap (w := w) hW, ← he]
            have := heap_cell hr idx hlt2
            rw [show 0 * q.esz + idx = idx from by omega, this, ← h3]
            simp
          have hd : (Builtin.firstCells i.size (xs.take len).length (.slice (some ⟨q.blk, 0 * q.esz, none⟩) (xs.take len).length (q.cap - 0))).run P w.drew = .ok (flat (xs.take len).length i.size (fun k j => cs.getD (k * i.size + j) undef)).toArray w.drew := by
            rw [hlt]; exact hcellsrun w.drew rfl
          have := grow_sound (B := B) (φ := φ) (μ := μ) (st := st.set b0 .dead) (w := w) (ty := ty) ht hi hz hzs (zs := xs.take len) (ys := ys) hd hsrc hf' hg (fun k hk => by
              by_cases hkz : k < len
              · have : (xs.take len ++ ys).getD k .unk = xs.getD k .unk := by simp [List.getD, List.getElem?_append_left (show k < (xs.take len).length by omega), List.getElem?_take, hkz]
                rw [this]; exact hr.els k (by omega)
              · have : (xs.take len ++ ys).getD k .unk = ys.getD (k - len) .unk := by
                  simp only [List.getD]
                  rw [List.getElem?_append_right (by omega), hlt]
                rw [this]; exact (goodEls_spec hgood _ (by simp at hk; omega)).1)
            (by omega) (by rw [hlt]; exact hb1) (by rw [hlt]; exact hb2) (ro.keep e) (by simp [Ro.keep]; omega) (fun t ht => by have := keep_eq ht; exact this) hs' (sl := sl) (b := bn) (st1 := st') hn
          rw [hlt] at this
          simpa using this
  · cases h

end
end Go.Proofs.Ago
