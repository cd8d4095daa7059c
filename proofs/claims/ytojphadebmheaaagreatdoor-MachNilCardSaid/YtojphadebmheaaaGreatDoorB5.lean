/- What is erased is plain data of the same value. -/
import Derived.Test.YtojphadebmheaaaGreatDoorB4
namespace Go.Proofs.Ago
open Go

theorem Sim.freeze {B : Base} {φ : Phi} {μ : Mu} {st : Store} {w : World} (h : Sim B φ μ st w) {i esz : Nat} {ro : Ro} {xs : List AV} {p : Place} {cs : Array Value} {T : TypeId}
    (hi : st[i]? = some (Blk.row esz xs ro)) (hr : RowOk φ μ w i esz xs ro p cs T) :
    ∃ μ', Sim B φ μ' (st.set i (Blk.row esz xs ⟨xs.length, ro.ty⟩)) w ∧ Ext φ μ φ μ' ∧ (∀ o, o < xs.length * esz → μ' p.blk o = some (cs.getD o undef)) := by
  have hil : i < st.length := (List.getElem?_eq_some_iff.1 hi).1
  have hfit : xs.length * esz ≤ cs.size := by rw [hr.size]; exact Nat.mul_le_mul_right _ hr.len
  have hcell : ∀ o, o < xs.length * esz → w.cell? ⟨p.blk, o, none⟩ = some (cs.getD o undef) := fun o ho => by
    have : o < cs.size := by omega
    simp [World.cell?, hr.heap, this]
  let μ' : Mu := fun b o => if b = p.blk ∧ o < xs.length * esz then some (cs.getD o undef) else μ b o
  have hext : Ext φ μ φ μ' := ⟨fun _ _ h => h, fun b o v hm => by
    by_cases hc : b = p.blk ∧ o < xs.length * esz
    · obtain ⟨rfl, ho⟩ := hc
      have h1 := h.mem _ _ _ hm
      rw [hcell o ho] at h1
      show μ' p.blk o = some v
      simp only [μ', ho, and_self, if_true]
      exact h1
    · simp only [μ', hc, if_false]; exact hm⟩
  have hother : ∀ b o, b ≠ p.blk → μ' b o = μ b o := fun b o hb => by simp [μ', hb]
  have hget : ∀ j e zs r, (st.set i (Blk.row esz xs ⟨xs.length, ro.ty⟩))[j]? = some (Blk.row e zs r) → (j ≠ i ∧ st[j]? = some (Blk.row e zs r)) ∨ (j = i ∧ e = esz ∧ zs = xs ∧ r = ⟨xs.length, ro.ty⟩) := fun j e zs r hj => by
    by_cases hji : j = i
    · subst hji
      rw [List.getElem?_set_self hil] at hj
      injection hj with hj; injection hj with h1 h2 h3
      exact .inr ⟨rfl, h1.symm, h2.symm, h3.symm⟩
    · rw [List.getElem?_set_ne (Ne.symm hji)] at hj
      exact .inl ⟨hji, hj⟩
  have hrow : ∀ j e zs r, (st.set i (Blk.row esz xs ⟨xs.length, ro.ty⟩))[j]? = some (Blk.row e zs r) → ∃ e' zs' r', st[j]? = some (Blk.row e' zs' r') := fun j e zs r hj => by
    rcases hget j e zs r hj with ⟨_, hj⟩ | ⟨rfl, _⟩
    · exact ⟨_, _, _, hj⟩
    · exact ⟨_, _, _, hi⟩
  refine ⟨μ', ⟨fun b o v hm => ?_, fun j e zs r hj => ?_, fun j k e zs r e' zs' r' q q' hj hk hq hq' hqq => ?_, fun j e zs r q hj hq => ?_, h.frame, h.lt, fun b o hb => ?_, fun j q hq => by simpa using h.dom j q hq, fun j hj => by
      by_cases hji : j = i
      · subst hji
        rw [List.getElem?_set_self hil] at hj
        cases hj
      · rw [List.getElem?_set_ne (Ne.symm hji)] at hj
        exact h.fresh j hj, fun j hj => by
      obtain ⟨h1, h2⟩ := h.hid j hj
      have hne : j ≠ i := fun he => by rw [he, hi] at h1; cases h1
      exact ⟨by rw [List.getElem?_set_ne (Ne.symm hne)]; exact h1, h2⟩, h.io⟩, hext, fun o ho => by simp [μ', ho]⟩
  · by_cases hc : b = p.blk ∧ o < xs.length * esz
    · obtain ⟨rfl, ho⟩ := hc
      simp [μ', ho] at hm
      rw [hcell o ho]; simp [← hm]
    · simp only [μ', hc, if_false] at hm; exact h.mem b o v hm
  · rcases hget j e zs r hj with ⟨hji, hj⟩ | ⟨rfl, rfl, rfl, rfl⟩
    · obtain ⟨q, cs', T', hr'⟩ := h.rows j e zs r hj
      refine ⟨q, cs', T', hr'.mono hext rfl fun o v hm => ?_⟩
      have hne : q.blk ≠ p.blk := fun hqq => hji (h.inj j i _ _ _ _ _ _ q p hj hi hr'.at_ hr.at_ hqq)
      rw [hother _ _ hne] at hm
      exact hr'.mu o v hm
    · refine ⟨p, cs, T, hr.at_, hr.esz_, hr.heap, hr.size, hr.len, Nat.le_refl _, hr.els, fun k j hk hj => (hr.rel k j hk hj).mono hext, fun o v hm => ?_, hr.ty_⟩
      by_cases ho : o < zs.length * e
      · exact ho
      · simp [μ', ho] at hm
        have := hr.mu o v hm
        exact Nat.lt_of_lt_of_le this (Nat.mul_le_mul_right _ hr.ro_)
  · obtain ⟨_, _, _, hj'⟩ := hrow j _ _ _ hj
    obtain ⟨_, _, _, hk'⟩ := hrow k _ _ _ hk
    exact h.inj j k _ _ _ _ _ _ q q' hj' hk' hq hq' hqq
  · obtain ⟨_, _, _, hj'⟩ := hrow j _ _ _ hj
    exact h.own j _ _ _ q hj' hq
  · rw [hother b o fun hbp => h.own i _ _ _ p hi hr.at_ (hbp ▸ hb)]; exact h.mu b o hb

theorem mapS_sound {B : Base} {φ : Phi} {w : World} {f : AV → Store → Option (AV × Store)} {Rin : Mu → AV → Nat → Prop} {Rout : Mu → AV → AV → Nat → Prop}
    (hin : ∀ μ μ' v k, Ext φ μ φ μ' → Rin μ v k → Rin μ' v k) (hout : ∀ μ μ' v v' k, Ext φ μ φ μ' → Rout μ v v' k → Rout μ' v v' k)
    (hf : ∀ v st v' st' μ k, f v st = some (v', st') → Rin μ v k → Sim B φ μ st w → ∃ μ', Sim B φ μ' st' w ∧ Ext φ μ φ μ' ∧ Rout μ' v v' k) :
    ∀ (xs : List AV) (st : Store) (ys : List AV) (st' : Store) (μ : Mu) (k : Nat), mapS f xs st = some (ys, st') → (∀ i, i < xs.length → Rin μ (xs.getD i .unk) (k + i)) → Sim B φ μ st w →
      ∃ μ', Sim B φ μ' st' w ∧ Ext φ μ φ μ' ∧ ys.length = xs.length ∧ ∀ i, i < xs.length → Rout μ' (xs.getD i .unk) (ys.getD i .unk) (k + i)
  | [], st, ys, st', μ, k, h, _, hs => by
    simp [mapS] at h
    obtain ⟨rfl, rfl⟩ := h
    exact ⟨μ, hs, Ext.refl _ _, rfl, fun i hi => by simp at hi⟩
  | x :: xs, st, ys, st', μ, k, h, hr, hs => by
    simp only [mapS, Option.bind_eq_some_iff, Option.map_eq_some_iff] at h
    obtain ⟨⟨y, s1⟩, h1, ⟨zs, s2⟩, h2, h3⟩ := h
    simp only [Prod.mk.injEq] at h3
    obtain ⟨rfl, rfl⟩ := h3
    obtain ⟨μ1, hs1, he1, ho1⟩ := hf x st y s1 μ k h1 (by simpa using hr 0 (by simp)) hs
    obtain ⟨μ2, hs2, he2, hl2, ho2⟩ := mapS_sound hin hout hf xs s1 zs s2 μ1 (k + 1) h2
      (fun i hi => hin _ _ _ _ he1 (by have := hr (i + 1) (by simpa using hi); simpa [Nat.add_assoc, Nat.add_comm 1 i] using this)) hs1
    refine ⟨μ2, hs2, he1.trans he2, by simp [hl2], fun i hi => ?_⟩
    cases i with
    | zero => simpa using hout _ _ _ _ _ he2 ho1
    | succ i => have := ho2 i (by simpa using hi); simpa [Nat.add_assoc, Nat.add_comm 1 i] using this

/-- What an erased value's cells are. -/
theorem erase_sound {B : Base} {φ : Phi} {w : World} : ∀ (n : Nat) (v : AV) (st : Store) (v' : AV) (st' : Store) (μ : Mu), erase n v st = some (v', st') → Sim B φ μ st w →
    (∀ c, VRel φ μ v c → ∃ μ', Sim B φ μ' st' w ∧ Ext φ μ φ μ' ∧ PRel μ' v' c) ∧
    (∀ f : Nat → Value, (∀ j, j < v.cells.length → VRel φ μ (v.cells.getD j .unk) (f j)) →
      ∃ μ', Sim B φ μ' st' w ∧ Ext φ μ φ μ' ∧ v'.cells.length = v.cells.length ∧ ∀ j, j < v.cells.length → PRel μ' (v'.cells.getD j .unk) (f j))
  | 0, v, st, v', st', μ, h, _ => by simp [erase] at h
  | n + 1, v, st, v', st', μ, h, hs => by
    have ih := @erase_sound B φ w n
    have hlist : ∀ (xs : List AV) (st : Store) (ys : List AV) (st' : Store) (μ : Mu) (f : Nat → Value), mapS (erase n) xs st = some (ys, st') → (∀ i, i < xs.length → VRel φ μ (xs.getD i .unk) (f i)) → Sim B φ μ st w →
        ∃ μ', Sim B φ μ' st' w ∧ Ext φ μ φ μ' ∧ ys.length = xs.length ∧ ∀ i, i < xs.length → PRel μ' (ys.getD i .unk) (f i) := fun xs st ys st' μ f hm hr hs => by
      have := mapS_sound (B := B) (φ := φ) (w := w) (f := erase n) (Rin := fun μ v k => VRel φ μ v (f k)) (Rout := fun μ _ v' k => PRel μ v' (f k))
        (fun _ _ _ _ he h => h.mono he) (fun _ _ _ _ _ he h => h.mono he.mu) (fun v st v' st' μ k h hv hs => (ih v st v' st' μ h hs).1 _ hv) xs st ys st' μ 0 hm (by simpa using hr) hs
      simpa using this
    -- a value of one cell: the second part is the first
    have single : (∀ c, VRel φ μ v c → ∃ μ', Sim B φ μ' st' w ∧ Ext φ μ φ μ' ∧ PRel μ' v' c) → v.cells = [v] → v'.cells = [v'] →
        (∀ c, VRel φ μ v c → ∃ μ', Sim B φ μ' st' w ∧ Ext φ μ φ μ' ∧ PRel μ' v' c) ∧
        (∀ f : Nat → Value, (∀ j, j < v.cells.length → VRel φ μ (v.cells.getD j .unk) (f j)) →
          ∃ μ', Sim B φ μ' st' w ∧ Ext φ μ φ μ' ∧ v'.cells.length = v.cells.length ∧ ∀ j, j < v.cells.length → PRel μ' (v'.cells.getD j .unk) (f j)) := fun h1 hv hv' =>
      ⟨h1, fun f hf => by
        rw [hv] at hf ⊢
        rw [hv']
        obtain ⟨μ', a, b, c⟩ := h1 (f 0) (by simpa using hf 0 (by simp))
        refine ⟨μ', a, b, rfl, fun j hj => ?_⟩
        have : j = 0 := by simpa using hj
        subst this; simpa using c⟩
    have same : (∀ c, VRel φ μ v c → PRel μ v c) → v' = v → st' = st → (∀ c, VRel φ μ v c → ∃ μ', Sim B φ μ' st' w ∧ Ext φ μ φ μ' ∧ PRel μ' v' c) := fun hp h1 h2 c hc => by
      subst h1; subst h2; exact ⟨μ, hs, Ext.refl _ _, hp c hc⟩
    cases v with
    | agg cs =>
      simp only [erase, Option.map_eq_some_iff, Prod.mk.injEq] at h
      obtain ⟨⟨ys, s1⟩, hm, rfl, rfl⟩ := h
      refine ⟨fun c hc => ?_, fun f hf => ?_⟩
      · obtain ⟨vs, rfl, hl, hr⟩ := hc.agg_inv
        obtain ⟨μ', a, b, hl', hp⟩ := hlist cs st ys s1 μ (fun i => vs.getD i undef) hm hr hs
        exact ⟨μ', a, b, .agg _ _ (by rw [hl, hl']) (fun i hi => hp i (hl' ▸ hi))⟩
      · obtain ⟨μ', a, b, hl', hp⟩ := hlist cs st ys s1 μ f hm hf hs
        exact ⟨μ', a, b, hl', hp⟩
    | tup cs =>
      simp only [erase, Option.map_eq_some_iff, Prod.mk.injEq] at h
      obtain ⟨⟨ys, s1⟩, hm, rfl, rfl⟩ := h
      refine single (fun c hc => ?_) rfl rfl
      obtain ⟨vs, rfl, hl, hr⟩ := hc.tup_inv
      obtain ⟨μ', a, b, hl', hp⟩ := hlist cs st ys s1 μ (fun i => vs.getD i undef) hm hr hs
      exact ⟨μ', a, b, .tup _ _ (by rw [hl, hl']) (fun i hi => hp i (hl' ▸ hi))⟩
    | ifc t x =>
      simp only [erase, Option.map_eq_some_iff, Prod.mk.injEq] at h
      obtain ⟨⟨y, s1⟩, hm, rfl, rfl⟩ := h
      refine single (fun c hc => ?_) rfl rfl
      obtain ⟨d, rfl, hd⟩ := hc.ifc_inv
      obtain ⟨μ', a, b, hp⟩ := (ih x st y s1 μ hm hs).1 d hd
      exact ⟨μ', a, b, .ifc _ _ _ hp⟩
    | fn f a b =>
      simp only [erase, Option.bind_eq_some_iff, Option.map_eq_some_iff, Prod.mk.injEq] at h
      obtain ⟨⟨ys, s1⟩, hm, ⟨zs, s2⟩, hm2, rfl, rfl⟩ := h
      refine single (fun c hc => ?_) rfl rfl
      obtain ⟨as, bs, rfl, hla, hlb, ha, hb⟩ := hc.fn_inv
      obtain ⟨μ1, s1', e1, hl1, hp1⟩ := hlist a st ys s1 μ (fun i => as.getD i undef) hm ha hs
      obtain ⟨μ2, s2', e2, hl2, hp2⟩ := hlist b s1 zs s2 μ1 (fun i => bs.getD i undef) hm2 (fun i hi => (hb i hi).mono e1) s1'
      exact ⟨μ2, s2', e1.trans e2, .fn _ _ _ _ _ (by rw [hla, hl1]) (by rw [hlb, hl2]) (fun i hi => (hp1 i (hl1 ▸ hi)).mono e2.mu) (fun i hi => hp2 i (hl2 ▸ hi))⟩
    | opq =>
      simp only [erase, Option.some.injEq, Prod.mk.injEq] at h
      obtain ⟨rfl, rfl⟩ := h
      exact single (fun c hc => by cases hc with | pure hp => exact ⟨μ, hs, Ext.refl _ _, hp⟩) rfl rfl
    | nils =>
      simp only [erase, Option.some.injEq, Prod.mk.injEq] at h
      obtain ⟨rfl, rfl⟩ := h
      exact single (fun c hc => by rw [hc.nils_inv]; exact ⟨μ, hs, Ext.refl _ _, .nils⟩) rfl rfl
    | vsl g xs =>
      simp only [erase, Option.some.injEq, Prod.mk.injEq] at h
      obtain ⟨rfl, rfl⟩ := h
      refine single (fun c hc => ?_) rfl rfl
      rcases hc.vsl_inv with ⟨rfl, rfl⟩ | ⟨blk, base, cap, esz, g, hm, hl, hr, _, hcc, rfl⟩
      · exact ⟨μ, hs, Ext.refl _ _, .vnil _⟩
      · exact ⟨μ, hs, Ext.refl _ _, .vsl _ _ blk base cap esz g hm hl hr (fun h => by cases h) hcc⟩
    | osl b off len =>
      simp only [erase] at h
      split at h <;> try (cases h; done)
      rename_i esz xs ro hb
      split at h <;> try (cases h; done)
      rename_i hfit
      simp only [Option.map_eq_some_iff, Prod.mk.injEq] at h
      obtain ⟨⟨ys, s1⟩, hm, rfl, rfl⟩ := h
      refine single (fun c hc => ?_) rfl rfl
      obtain ⟨p, hp, hcap, rfl⟩ := hc.osl_inv
      obtain ⟨q, cs, T, hr⟩ := hs.rows b esz xs ro hb
      obtain rfl : q = p := Option.some.inj (hr.at_.symm.trans hp)
      obtain ⟨μ1, hs1, he1, hfz⟩ := hs.freeze hb hr
      have hel : ∀ i, i < len → ((xs.drop off).take len).getD i .unk = xs.getD (off + i) .unk := fun i hi => by
        simp [List.getD, List.getElem?_take, hi]
      have hlen : ((xs.drop off).take len).length = len := by simp; omega
      have := mapS_sound (B := B) (φ := φ) (w := w) (f := erase n)
        (Rin := fun μ v k => k < len ∧ v.cells.length = esz ∧ ∀ j, j < esz → VRel φ μ (v.cells.getD j .unk) (cs.getD ((off + k) * esz + j) undef))
        (Rout := fun μ _ v' k => v'.cells.length = esz ∧ ∀ j, j < esz → PRel μ (v'.cells.getD j .unk) (cs.getD ((off + k) * esz + j) undef))
        (fun _ _ _ _ he h => ⟨h.1, h.2.1, fun j hj => (h.2.2 j hj).mono he⟩) (fun _ _ _ _ _ he h => ⟨h.1, fun j hj => (h.2 j hj).mono he.mu⟩)
        (fun v st v' st' μ k h hv hs => by
          obtain ⟨hk, hl, hv⟩ := hv
          obtain ⟨μ', a, b, c, d⟩ := (ih v st v' st' μ h hs).2 (fun j => cs.getD ((off + k) * esz + j) undef) (by rw [hl]; exact hv)
          exact ⟨μ', a, b, by rw [c, hl], fun j hj => d j (by rw [hl]; exact hj)⟩)
        _ _ ys s1 μ1 0 hm (fun i hi => by
          rw [hlen] at hi
          rw [hel i hi]
          refine ⟨by omega, hr.els _ (by omega), fun j hj => ?_⟩
          have := (hr.rel (off + i) j (by omega) hj).mono he1
          simpa using this) hs1
      obtain ⟨μ2, hs2, he2, hl2, hp2⟩ := this
      rw [hlen] at hl2 hp2
      refine ⟨μ2, hs2, he1.trans he2, ?_⟩
      have hcap' : len ≤ q.cap - off := by omega
      have := PRel.vsl (μ := μ2) false ys q.blk (off * q.esz) (q.cap - off) esz (fun i j => cs.getD ((off + i) * esz + j) undef)
        (fun i j hi hj => by
          rw [hl2] at hi
          refine he2.mu _ _ _ ?_
          rw [hr.esz_]
          have e : off * esz + i * esz + j = (off + i) * esz + j := by rw [Nat.add_mul]
          rw [e]
          refine hfz _ ?_
          calc (off + i) * esz + j < (off + i) * esz + esz := by omega
            _ = (off + i + 1) * esz := by rw [Nat.add_mul (off + i) 1, Nat.one_mul]
            _ ≤ xs.length * esz := Nat.mul_le_mul_right _ (by omega))
        (fun i hi => (hp2 i (hl2 ▸ hi)).1)
        (fun i j hi hj => by simpa using (hp2 i (hl2 ▸ hi)).2 j hj) (fun h => by cases h) (by omega)
      rw [hl2] at this
      exact this
    | ptr => simp [erase] at h
    | eptr => simp [erase] at h
    | asl => simp [erase] at h
    | unk => simp [erase] at h
    | bool b => simp only [erase, Option.some.injEq, Prod.mk.injEq] at h; exact single (same (fun c hc => by rw [hc.bool_inv]; exact .bool _) h.1.symm h.2.symm) rfl (h.1 ▸ rfl)
    | int k m => simp only [erase, Option.some.injEq, Prod.mk.injEq] at h; exact single (same (fun c hc => by rw [hc.int_inv]; exact .int _ _) h.1.symm h.2.symm) rfl (h.1 ▸ rfl)
    | str s => simp only [erase, Option.some.injEq, Prod.mk.injEq] at h; exact single (same (fun c hc => by obtain ⟨b, rfl, rfl⟩ := hc.str_inv; exact .str _) h.1.symm h.2.symm) rfl (h.1 ▸ rfl)
    | flt k m => simp only [erase, Option.some.injEq, Prod.mk.injEq] at h; exact single (same (fun c hc => by cases hc; assumption) h.1.symm h.2.symm) rfl (h.1 ▸ rfl)
    | cpx k a b => simp only [erase, Option.some.injEq, Prod.mk.injEq] at h; exact single (same (fun c hc => by cases hc; assumption) h.1.symm h.2.symm) rfl (h.1 ▸ rfl)
    | nilp => simp only [erase, Option.some.injEq, Prod.mk.injEq] at h; exact single (same (fun c hc => by cases hc; assumption) h.1.symm h.2.symm) rfl (h.1 ▸ rfl)
    | nilf => simp only [erase, Option.some.injEq, Prod.mk.injEq] at h; exact single (same (fun c hc => by cases hc; assumption) h.1.symm h.2.symm) rfl (h.1 ▸ rfl)
    | nili => simp only [erase, Option.some.injEq, Prod.mk.injEq] at h; exact single (same (fun c hc => by cases hc; assumption) h.1.symm h.2.symm) rfl (h.1 ▸ rfl)

end Go.Proofs.Ago
