/- The store and the world: the simulation relation, and how it lasts. -/
import Derived.Test.YtojphadebmheaaaGreatDoorB3
namespace Go.Proofs.Ago
open Go

/-- What stays: the world at the beginning, the blocks that are not ours, what is frozen in them. -/
structure Base where
  w0 : World
  F : Nat → Prop
  μ0 : Mu
  D : Nat → Prop
  φ0 : Phi

/-- A row of the store, in memory. -/
structure RowOk (φ : Phi) (μ : Mu) (w : World) (i esz : Nat) (xs : List AV) (ro : Ro) (p : Place) (cs : Array Value) (T : TypeId) : Prop where
  at_ : φ i = some p
  esz_ : p.esz = esz
  heap : w.heap[p.blk]? = some (.cells cs T (0, 0))
  size : cs.size = p.cap * esz
  len : xs.length ≤ p.cap
  ro_ : ro.n ≤ xs.length
  els : ∀ k, k < xs.length → (xs.getD k .unk).cells.length = esz
  rel : ∀ k j, k < xs.length → j < esz → VRel φ μ ((xs.getD k .unk).cells.getD j .unk) (cs.getD (k * esz + j) undef)
  mu : ∀ o v, μ p.blk o = some v → o < ro.n * esz
  ty_ : ∀ t, ro.ty = some t → T = t

/-- Nothing was told to the outside. -/
def Quiet (w w' : World) : Prop := w'.os = w.os ∧ w'.output = w.output

theorem Quiet.refl (w : World) : Quiet w w := ⟨rfl, rfl⟩
theorem Quiet.trans {w w' w'' : World} (h : Quiet w w') (h' : Quiet w' w'') : Quiet w w'' := ⟨h'.1.trans h.1, h'.2.trans h.2⟩

structure Sim (B : Base) (φ : Phi) (μ : Mu) (st : Store) (w : World) : Prop where
  mem : ∀ b o v, μ b o = some v → w.cell? ⟨b, o, none⟩ = some v
  rows : ∀ i esz xs ro, st[i]? = some (Blk.row esz xs ro) → ∃ p cs T, RowOk φ μ w i esz xs ro p cs T
  inj : ∀ i j e xs r e' xs' r' p q, st[i]? = some (Blk.row e xs r) → st[j]? = some (Blk.row e' xs' r') → φ i = some p → φ j = some q → p.blk = q.blk → i = j
  own : ∀ i e xs r p, st[i]? = some (Blk.row e xs r) → φ i = some p → ¬ B.F p.blk
  frame : ∀ b, B.F b → w.heap[b]? = B.w0.heap[b]?
  lt : ∀ b, B.F b → b < w.heap.size
  mu : ∀ b o, B.F b → μ b o = B.μ0 b o
  dom : ∀ i p, φ i = some p → i < st.length
  fresh : ∀ i, st[i]? = some Blk.fresh → φ i = none
  hid : ∀ i, B.D i → st[i]? = some Blk.dead ∧ φ i = B.φ0 i
  io : Quiet B.w0 w

theorem cell_of_heap {w w' : World} {a : Addr} (h : w'.heap[a.block]? = w.heap[a.block]?) : w'.cell? a = w.cell? a := by
  simp only [World.cell?, h]

theorem Sim.mu_lt {B : Base} {φ : Phi} {μ : Mu} {st : Store} {w : World} (h : Sim B φ μ st w) {b o : Nat} {v : Value} (hm : μ b o = some v) : b < w.heap.size := by
  have := h.mem b o v hm
  exact World.block_lt_of_cell? (w := w) (a := ⟨b, o, none⟩) this

theorem RowOk.lt {φ : Phi} {μ : Mu} {w : World} {i esz : Nat} {xs : List AV} {ro : Ro} {p : Place} {cs : Array Value} {T : TypeId} (h : RowOk φ μ w i esz xs ro p cs T) : p.blk < w.heap.size := by
  rcases Nat.lt_or_ge p.blk w.heap.size with h' | h'
  · exact h'
  · have := h.heap; simp [Array.getElem?_eq_none h'] at this

theorem RowOk.mono {φ φ' : Phi} {μ μ' : Mu} {w w' : World} {i esz : Nat} {xs : List AV} {ro : Ro} {p : Place} {cs : Array Value} {T : TypeId} (h : RowOk φ μ w i esz xs ro p cs T)
    (he : Ext φ μ φ' μ') (hw : w'.heap[p.blk]? = w.heap[p.blk]?) (hm : ∀ o v, μ' p.blk o = some v → o < ro.n * esz) : RowOk φ' μ' w' i esz xs ro p cs T :=
  ⟨he.phi _ _ h.at_, h.esz_, by rw [hw]; exact h.heap, h.size, h.len, h.ro_, h.els, fun k j hk hj => (h.rel k j hk hj).mono he, hm, h.ty_⟩

/-- Nothing that was there has changed. -/
structure Grows (w w' : World) : Prop where
  size : w.heap.size ≤ w'.heap.size
  heap : ∀ b, b < w.heap.size → w'.heap[b]? = w.heap[b]?
  io : Quiet w w'

theorem Grows.refl (w : World) : Grows w w := ⟨Nat.le_refl _, fun _ _ => rfl, Quiet.refl w⟩
theorem Grows.trans {w w' w'' : World} (h : Grows w w') (h' : Grows w' w'') : Grows w w'' :=
  ⟨Nat.le_trans h.1 h'.1, fun b hb => (h'.2 b (Nat.lt_of_lt_of_le hb h.1)).trans (h.2 b hb), h.io.trans h'.io⟩
theorem Grows.alloc (w : World) (o : Obj) : Grows w (w.alloc o) := ⟨by simp, (fun b hb => by
  show (w.heap.push o)[b]? = _
  rw [Array.getElem?_push, if_neg (Nat.ne_of_lt hb)]), ⟨rfl, rfl⟩⟩
theorem Grows.drew (w : World) : Grows w w.drew := ⟨Nat.le_refl _, fun _ _ => rfl, ⟨rfl, rfl⟩⟩

theorem Sim.grow {B : Base} {φ : Phi} {μ : Mu} {st : Store} {w w' : World} (h : Sim B φ μ st w) (hg : Grows w w') : Sim B φ μ st w' where
  mem b o v hm := by rw [cell_of_heap (hg.2 b (h.mu_lt hm))]; exact h.mem b o v hm
  rows i esz xs ro hi := by
    obtain ⟨p, cs, T, hr⟩ := h.rows i esz xs ro hi
    exact ⟨p, cs, T, hr.mono (Ext.refl _ _) (hg.2 _ hr.lt) hr.mu⟩
  inj := h.inj
  own := h.own
  frame b hb := (hg.2 b (h.lt b hb)).trans (h.frame b hb)
  lt b hb := Nat.lt_of_lt_of_le (h.lt b hb) hg.1
  mu := h.mu
  dom := h.dom
  fresh := h.fresh
  hid := h.hid
  io := h.io.trans hg.io

theorem Sim.drew {B : Base} {φ : Phi} {μ : Mu} {st : Store} {w : World} (h : Sim B φ μ st w) : Sim B φ μ st w.drew := h.grow (Grows.drew w)

def Phi.put (φ : Phi) (i : Nat) (p : Place) : Phi := fun k => if k = i then some p else φ k

theorem Phi.put_ext {φ : Phi} {μ : Mu} {b : Nat} (hb : φ b = none) (p : Place) : Ext φ μ (φ.put b p) μ :=
  ⟨fun i q hi => by
    have : i ≠ b := fun h => by subst h; rw [hb] at hi; cases hi
    simp [Phi.put, this, hi], fun _ _ _ h => h⟩

theorem alloc_old {w : World} {o : Obj} {b : Nat} (h : b < w.heap.size) : (w.alloc o).heap[b]? = w.heap[b]? := (Grows.alloc w o).2 b h
theorem alloc_new {w : World} {o : Obj} : (w.alloc o).heap[w.heap.size]? = some o := by
  show (w.heap.push o)[w.heap.size]? = _
  simp

/-- What a new block leaves of the store. -/
theorem newBlk_spec {B : Base} {φ : Phi} {μ : Mu} {st : Store} {w : World} (hs : Sim B φ μ st w) {sl : Option Nat} {blk : Blk} {b : Nat} {st1 : Store} (h : newBlk st sl blk = some (b, st1)) :
    φ b = none ∧ (∀ i c, st1[i]? = some c → (i ≠ b ∧ st[i]? = some c) ∨ (i = b ∧ c = blk)) ∧ (∀ i, i < st.length → i < st1.length) ∧ b < st1.length ∧ (∀ i, st[i]? = some Blk.dead → i ≠ b ∧ st1[i]? = some Blk.dead) := by
  cases sl with
  | none =>
    simp only [newBlk, Option.some.injEq, Prod.mk.injEq] at h
    obtain ⟨rfl, rfl⟩ := h
    refine ⟨?_, fun i c hi => ?_, fun i hi => by simp; omega, by simp, fun i hi => ?_⟩
    rotate_right
    · have hl : i < st.length := (List.getElem?_eq_some_iff.1 hi).1
      exact ⟨by omega, by rw [List.getElem?_append_left hl]; exact hi⟩
    · cases hp : φ st.length with
      | none => rfl
      | some p => exact absurd (hs.dom _ _ hp) (Nat.lt_irrefl _)
    · rw [List.getElem?_append] at hi
      split at hi
      · exact .inl ⟨by omega, hi⟩
      · rename_i hlt
        rcases Nat.eq_zero_or_pos (i - st.length) with h0 | h0
        · rw [h0] at hi
          simp at hi
          exact .inr ⟨by omega, hi.symm⟩
        · rw [List.getElem?_eq_none (by simp; omega)] at hi
          cases hi
  | some s =>
    simp only [newBlk] at h
    split at h <;> try (cases h; done)
    rename_i hf
    simp only [Option.some.injEq, Prod.mk.injEq] at h
    obtain ⟨rfl, rfl⟩ := h
    have hl : s < st.length := (List.getElem?_eq_some_iff.1 hf).1
    refine ⟨hs.fresh _ hf, fun i c hi => ?_, fun i hi => by simpa using hi, by simpa using hl, fun i hi => ?_⟩
    rotate_right
    · have hne : i ≠ s := fun he => by rw [he, hf] at hi; cases hi
      exact ⟨hne, by rw [List.getElem?_set_ne (Ne.symm hne)]; exact hi⟩
    by_cases his : i = s
    · subst his
      rw [List.getElem?_set_self hl] at hi
      exact .inr ⟨rfl, (Option.some.inj hi).symm⟩
    · rw [List.getElem?_set_ne (Ne.symm his)] at hi
      exact .inl ⟨his, hi⟩

/-- A new row, in a new block. -/
theorem Sim.new {B : Base} {φ : Phi} {μ : Mu} {st : Store} {w : World} (h : Sim B φ μ st w) (esz cap : Nat) (xs : List AV) (cs : Array Value) (T : TypeId)
    (hs : cs.size = cap * esz) (hl : xs.length ≤ cap) (he : ∀ k, k < xs.length → (xs.getD k .unk).cells.length = esz)
    (hr : ∀ k j, k < xs.length → j < esz → VRel φ μ ((xs.getD k .unk).cells.getD j .unk) (cs.getD (k * esz + j) undef)) (ro : Ro) (hro : ro.n ≤ xs.length) (hty : ∀ t, ro.ty = some t → T = t)
    {sl : Option Nat} {b : Nat} {st1 : Store} (hn : newBlk st sl (.row esz xs ro) = some (b, st1)) :
    Sim B (φ.put b ⟨w.heap.size, cap, esz⟩) μ st1 (w.alloc (.cells cs T (0, 0))) ∧ Ext φ μ (φ.put b ⟨w.heap.size, cap, esz⟩) μ := by
  have hg := Grows.alloc w (.cells cs T (0, 0))
  obtain ⟨hφ, hget, hlen, hbl, hdead⟩ := newBlk_spec h hn
  have hx := Phi.put_ext (μ := μ) hφ ⟨w.heap.size, cap, esz⟩
  have hnew : ∀ i e ys r, st1[i]? = some (Blk.row e ys r) → (i ≠ b ∧ st[i]? = some (Blk.row e ys r)) ∨ (i = b ∧ e = esz ∧ ys = xs ∧ r = ro) := fun i e ys r hi => by
    rcases hget i _ hi with h1 | ⟨h1, h2⟩
    · exact .inl h1
    · injection h2 with h3 h4 h5
      exact .inr ⟨h1, h3, h4, h5⟩
  have hold : ∀ i, i ≠ b → (φ.put b ⟨w.heap.size, cap, esz⟩) i = φ i := fun i hi => by simp [Phi.put, hi]
  have hput : (φ.put b ⟨w.heap.size, cap, esz⟩) b = some ⟨w.heap.size, cap, esz⟩ := by simp [Phi.put]
  have hlt : ∀ i e ys r p, st[i]? = some (Blk.row e ys r) → φ i = some p → p.blk < w.heap.size := fun i e ys r p hi hp => by
    obtain ⟨q, _, _, hq⟩ := h.rows i e ys r hi
    have : q = p := Option.some.inj (hq.at_.symm.trans hp)
    exact this ▸ hq.lt
  refine ⟨⟨fun b o v hm => ?_, fun i e ys r hi => ?_, fun i j e ys r e' ys' r' p q hi hj hp hq hpq => ?_, fun i e ys r p hi hp => ?_, fun b hb => ?_, fun b hb => ?_, h.mu, fun i p hp => ?_, fun i hi => ?_, fun i hi => by
    obtain ⟨h1, h2⟩ := h.hid i hi
    obtain ⟨h3, h4⟩ := hdead i h1
    exact ⟨h4, by rw [hold i h3]; exact h2⟩, h.io.trans hg.io⟩, hx⟩
  · rw [cell_of_heap (hg.2 b (h.mu_lt hm))]; exact h.mem b o v hm
  · rcases hnew i e ys r hi with ⟨hne, hi⟩ | ⟨rfl, rfl, rfl, rfl⟩
    · obtain ⟨p, cs', T', hr'⟩ := h.rows i e ys r hi
      exact ⟨p, cs', T', hr'.mono hx (hg.2 _ hr'.lt) hr'.mu⟩
    · exact ⟨⟨w.heap.size, cap, e⟩, cs, T, hput, rfl, alloc_new, hs, hl, hro, he, fun k j hk hj => (hr k j hk hj).mono hx, fun o v hm => absurd (h.mu_lt hm) (Nat.lt_irrefl _), hty⟩
  · rcases hnew i e ys r hi with ⟨hil, hi⟩ | ⟨rfl, _, _, _⟩ <;> rcases hnew j e' ys' r' hj with ⟨hjl, hj⟩ | ⟨rfl, _, _, _⟩
    · rw [hold i hil] at hp; rw [hold j hjl] at hq
      exact h.inj i j _ _ _ _ _ _ p q hi hj hp hq hpq
    · rw [hold i hil] at hp; rw [hput] at hq
      have := hlt i _ _ _ p hi hp
      cases hq; simp at hpq; omega
    · rw [hold j hjl] at hq; rw [hput] at hp
      have := hlt j _ _ _ q hj hq
      cases hp; simp at hpq; omega
    · rfl
  · rcases hnew i e ys r hi with ⟨hil, hi⟩ | ⟨rfl, _, _, _⟩
    · rw [hold i hil] at hp
      exact h.own i e ys r p hi hp
    · rw [hput] at hp; cases hp
      exact fun hF => absurd (h.lt _ hF) (Nat.lt_irrefl _)
  · rw [hg.2 b (h.lt b hb)]; exact h.frame b hb
  · exact Nat.lt_of_lt_of_le (h.lt b hb) hg.1
  · by_cases hi' : i = b
    · subst hi'; exact hbl
    · rw [hold i hi'] at hp
      exact hlen i (h.dom i p hp)
  · rcases hget i _ hi with ⟨h1, h2⟩ | ⟨h1, h2⟩
    · rw [hold i h1]; exact h.fresh i h2
    · cases h2

/-- Places are kept for what a region makes. -/
theorem Sim.extend {B : Base} {φ : Phi} {μ : Mu} {st : Store} {w : World} (h : Sim B φ μ st w) (n : Nat) : Sim B φ μ (st ++ List.replicate n Blk.fresh) w := by
  have hget : ∀ i e ys r, (st ++ List.replicate n Blk.fresh)[i]? = some (Blk.row e ys r) → st[i]? = some (Blk.row e ys r) := fun i e ys r hi => by
    rw [List.getElem?_append] at hi
    split at hi
    · exact hi
    · rw [List.getElem?_replicate] at hi
      split at hi <;> cases hi
  exact ⟨h.mem, fun i e xs r hi => h.rows i e xs r (hget _ _ _ _ hi), fun i j e xs r e' xs' r' p q hi hj => h.inj i j _ _ _ _ _ _ p q (hget _ _ _ _ hi) (hget _ _ _ _ hj),
    fun i e xs r p hi => h.own i e xs r p (hget _ _ _ _ hi), h.frame, h.lt, h.mu, fun i p hp => by have := h.dom i p hp; simp; omega, fun i hi => by
      rw [List.getElem?_append] at hi
      split at hi
      · exact h.fresh i hi
      · rename_i hlt
        cases hp : φ i with
        | none => rfl
        | some p => exact absurd (h.dom i p hp) hlt, fun i hi => by
      obtain ⟨h1, h2⟩ := h.hid i hi
      exact ⟨by rw [List.getElem?_append_left (List.getElem?_eq_some_iff.1 h1).1]; exact h1, h2⟩, h.io⟩

/-- A row's cells are turned, where it may be written. -/
theorem Sim.setRow {B : Base} {φ : Phi} {μ : Mu} {st : Store} {w : World} (h : Sim B φ μ st w) {i esz : Nat} {ro : Ro} {xs ys : List AV} {p : Place} {cs ds : Array Value} {T : TypeId}
    (hi : st[i]? = some (Blk.row esz xs ro)) (hr : RowOk φ μ w i esz xs ro p cs T) (hs : ds.size = cs.size) (hl : ys.length ≤ p.cap) (hro : ro.n ≤ ys.length)
    (he : ∀ k, k < ys.length → (ys.getD k .unk).cells.length = esz)
    (hrel : ∀ k j, k < ys.length → j < esz → VRel φ μ ((ys.getD k .unk).cells.getD j .unk) (ds.getD (k * esz + j) undef))
    (hkeep : ∀ o, o < ro.n * esz → ds[o]? = cs[o]?) :
    Sim B φ μ (st.set i (.row esz ys ro)) (w.setRow p.blk ds) := by
  have hil : i < st.length := (List.getElem?_eq_some_iff.1 hi).1
  have hget : ∀ j e zs r, (st.set i (Blk.row esz ys ro))[j]? = some (Blk.row e zs r) → (j ≠ i ∧ st[j]? = some (Blk.row e zs r)) ∨ (j = i ∧ e = esz ∧ zs = ys ∧ r = ro) := fun j e zs r hj => by
    by_cases hji : j = i
    · subst hji
      rw [List.getElem?_set_self hil] at hj
      injection hj with hj; injection hj with h1 h2 h3
      exact .inr ⟨rfl, h1.symm, h2.symm, h3.symm⟩
    · rw [List.getElem?_set_ne (Ne.symm hji)] at hj
      exact .inl ⟨hji, hj⟩
  have hrow : ∀ j e zs r, (st.set i (Blk.row esz ys ro))[j]? = some (Blk.row e zs r) → ∃ e' zs' r', st[j]? = some (Blk.row e' zs' r') := fun j e zs r hj => by
    rcases hget j e zs r hj with ⟨_, hj⟩ | ⟨rfl, _⟩
    · exact ⟨_, _, _, hj⟩
    · exact ⟨_, _, _, hi⟩
  refine ⟨fun b o v hm => ?_, fun j e zs r hj => ?_, fun j k e zs r e' zs' r' q q' hj hk hq hq' hqq => ?_, fun j e zs r q hj hq => ?_, fun b hb => ?_, fun b hb => ?_, h.mu, fun j q hq => ?_, fun j hj => ?_, fun j hj => by
    obtain ⟨h1, h2⟩ := h.hid j hj
    have hne : j ≠ i := fun he => by rw [he, hi] at h1; cases h1
    exact ⟨by rw [List.getElem?_set_ne (Ne.symm hne)]; exact h1, h2⟩, h.io.trans ⟨rfl, rfl⟩⟩
  · by_cases hb : b = p.blk
    · subst hb
      have ho := hr.mu o v hm
      have := h.mem _ _ _ hm
      rw [cell_setRow_same w p.blk o cs ds T (0, 0) hr.heap, hkeep o ho]
      simpa [World.cell?, hr.heap] using this
    · rw [cell_setRow_other w p.blk ds _ hb]; exact h.mem b o v hm
  · rcases hget j e zs r hj with ⟨hji, hj⟩ | ⟨rfl, rfl, rfl, rfl⟩
    · obtain ⟨q, cs', T', hr'⟩ := h.rows j e zs r hj
      refine ⟨q, cs', T', hr'.mono (Ext.refl _ _) ?_ hr'.mu⟩
      exact setRow_other w _ _ ds fun hqq => hji (h.inj j i _ _ _ _ _ _ q p hj hi hr'.at_ hr.at_ hqq)
    · exact ⟨p, ds, T, hr.at_, hr.esz_, setRow_heap w _ cs ds T _ hr.heap, by rw [hs]; exact hr.size, hl, hro, he, hrel, hr.mu, hr.ty_⟩
  · obtain ⟨_, _, _, hj'⟩ := hrow j _ _ _ hj
    obtain ⟨_, _, _, hk'⟩ := hrow k _ _ _ hk
    exact h.inj j k _ _ _ _ _ _ q q' hj' hk' hq hq' hqq
  · obtain ⟨_, _, _, hj'⟩ := hrow j _ _ _ hj
    exact h.own j _ _ _ q hj' hq
  · rw [setRow_other w _ _ ds (fun hbp : b = p.blk => h.own i _ _ _ p hi hr.at_ (by rw [← hbp]; exact hb))]; exact h.frame b hb
  · simpa using h.lt b hb
  · simpa using h.dom j q hq
  · by_cases hji : j = i
    · subst hji
      rw [List.getElem?_set_self hil] at hj
      cases hj
    · rw [List.getElem?_set_ne (Ne.symm hji)] at hj
      exact h.fresh j hj

/-- A row is given up. -/
theorem Sim.drop {B : Base} {φ : Phi} {μ : Mu} {st : Store} {w : World} (h : Sim B φ μ st w) (i : Nat) : Sim B φ μ (st.set i .dead) w := by
  have hget : ∀ j e zs r, (st.set i Blk.dead)[j]? = some (Blk.row e zs r) → st[j]? = some (Blk.row e zs r) := fun j e zs r hj => by
    by_cases hji : j = i
    · subst hji
      rcases Nat.lt_or_ge j st.length with hl | hl
      · rw [List.getElem?_set_self hl] at hj; cases hj
      · rw [List.getElem?_eq_none (by simpa using hl)] at hj; cases hj
    · rwa [List.getElem?_set_ne (Ne.symm hji)] at hj
  exact ⟨h.mem, fun j e zs r hj => h.rows j e zs r (hget _ _ _ _ hj), fun j k e zs r e' zs' r' p q hj hk => h.inj j k e zs r e' zs' r' p q (hget _ _ _ _ hj) (hget _ _ _ _ hk),
    fun j e zs r p hj => h.own j e zs r p (hget _ _ _ _ hj), h.frame, h.lt, h.mu, fun j p hp => by simpa using h.dom j p hp, fun j hj => by
      by_cases hji : j = i
      · subst hji
        rcases Nat.lt_or_ge j st.length with hl | hl
        · rw [List.getElem?_set_self hl] at hj; cases hj
        · rw [List.getElem?_eq_none (by simpa using hl)] at hj; cases hj
      · rw [List.getElem?_set_ne (Ne.symm hji)] at hj
        exact h.fresh j hj, fun j hj => by
      obtain ⟨h1, h2⟩ := h.hid j hj
      refine ⟨?_, h2⟩
      by_cases hji : j = i
      · subst hji; rw [List.getElem?_set_self (List.getElem?_eq_some_iff.1 h1).1]
      · rw [List.getElem?_set_ne (Ne.symm hji)]; exact h1, h.io⟩

end Go.Proofs.Ago
