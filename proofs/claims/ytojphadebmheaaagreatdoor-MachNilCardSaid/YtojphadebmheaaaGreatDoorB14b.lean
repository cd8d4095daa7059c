/- Pointers without a type, texts out of bytes, a function of the model's own. -/
import Derived.Test.YtojphadebmheaaaGreatDoorB14
import Derived.Lib.Builder
import Derived.Lib.UnsafeStr
import Derived.Clock
import Derived.KernelRfl
namespace Go.Proofs.Ago
open Go
variable {P : Program}

theorem rowAt_mono {fits : TypeId → Bool} : ∀ (d : Nat) {e : TypeId} {c c' off n : Nat}, c ≤ c' → rowAt P fits d e c off n = true → rowAt P fits d e c' off n = true
  | 0, _, _, _, _, _, _, h => by simp [rowAt] at h
  | d + 1, e, c, c', off, n, hc, h => by
    simp only [rowAt] at h ⊢
    split at h
    · cases h
    · rename_i h0
      rw [if_neg h0]
      simp only [Bool.or_eq_true, Bool.and_eq_true, decide_eq_true_eq] at h ⊢
      rcases h with h | h
      · exact .inl ⟨⟨h.1.1, Nat.le_trans h.1.2 hc⟩, h.2⟩
      · exact .inr ⟨Nat.lt_of_lt_of_le h.1 hc, h.2⟩

theorem liesAt_mono : ∀ (d : Nat) {e : TypeId} {c c' off : Nat} {u : TypeId} {n : Nat}, c ≤ c' → liesAt P d e c off u n = true → liesAt P d e c' off u n = true
  | 0, _, _, _, _, _, _, _, h => by simp [liesAt] at h
  | d + 1, e, c, c', off, u, n, hc, h => by
    simp only [liesAt, Bool.or_eq_true] at h ⊢
    rcases h with h | h
    · exact .inl (rowAt_mono _ hc h)
    · refine .inr ?_
      split at h
      · exact liesAt_mono d hc h
      · cases h

section
variable {B : Base} {φ : Phi} {μ : Mu} {st : Store} {w : World}

theorem shape_of {i esz : Nat} {xs : List AV} {ro : Ro} {p : Place} {cs : Array Value} {T : TypeId} (hr : RowOk φ μ w i esz xs ro p cs T) : w.shape? p.blk = some (T, cs.size) := by
  simp only [World.shape?, hr.heap]

theorem s_cvp {s d t : TypeId} {n : Nat} (hu : P.underlying s = some (.pointer t)) (hd : P.underlying d = some .unsafePointer) (hn : sizeA P t = some n) (h0 : n ≠ 0) {a : AV} {x : Value} {v : AV} {st' : Store}
    (h : rCvp st [a] = some (v, st')) (ha : VRel φ μ a x) (hs : Sim B φ μ st w) : OutV P B φ μ (convert s d x) v st' w := by
  unfold rCvp at h
  split at h <;> try (cases h; done)
  rename_i b i off heq
  simp only [List.cons.injEq, and_true] at heq
  subst heq
  split at h <;> try (cases h; done)
  rename_i esz xs ro hb
  simp only [Option.bind_eq_some_iff] at h
  obtain ⟨el, hel, h⟩ := h
  split at h <;> try (cases h; done)
  rename_i hoff
  injection h with h; injection h with h1 h2; subst h1; subst h2
  obtain ⟨p, hp, rfl⟩ := ha.ptr_inv
  obtain ⟨q, cs, T, hr⟩ := hs.rows _ _ _ _ hb
  obtain rfl : q = p := Option.some.inj (hr.at_.symm.trans hp)
  obtain ⟨hlt, _⟩ := List.getElem?_eq_some_iff.1 hel
  have hd' : xs.getD i .unk = el := by simp [List.getD, hel]
  have hlen := hr.els i hlt
  rw [hd'] at hlen
  unfold sizeA at hn
  simp only [Option.map_eq_some_iff] at hn
  obtain ⟨j, hj, rfl⟩ := hn
  refine .same hs (Lib.run_to_unsafe w _ hu hd hj h0 (shape_of hr) ?_) ha
  rw [hr.size, hr.esz_]
  have := row_fit hlt (show off < esz by omega) hr.len
  exact this

theorem homes_spec {u t n off : Nat} (h : (t, n, off) ∈ homes P u) : n = P.cellsOf t ∧ n ≠ 0 ∧ liesAt P P.depth t 1 off u 1 = true := by
  unfold homes at h
  simp only [List.mem_flatMap, List.mem_range] at h
  obtain ⟨t', _, h⟩ := h
  split at h
  · simp only [List.mem_map, List.mem_filter, Bool.and_eq_true, Prod.mk.injEq] at h
    obtain ⟨f, ⟨_, ⟨_, h1⟩, h2⟩, rfl, rfl, rfl⟩ := h
    exact ⟨rfl, by simpa using h1, h2⟩
  · simp at h

theorem s_cvu {s d u : TypeId} {n : Nat} (hu : P.underlying s = some .unsafePointer) (hd : P.underlying d = some (.pointer u)) (hn : sizeA P u = some n) {a : AV} {x : Value} {v : AV} {st' : Store}
    (h : rCvu st (homes P u) [a] = some (v, st')) (ha : VRel φ μ a x) (hs : Sim B φ μ st w) : OutV P B φ μ (convert s d x) v st' w := by
  unfold rCvu at h
  split at h <;> try (cases h; done)
  rename_i b off heq
  simp only [List.cons.injEq, and_true] at heq
  subst heq
  split at h <;> try (cases h; done)
  rename_i esz y ys r t hb
  split at h <;> try (cases h; done)
  rename_i hl
  injection h with h; injection h with h1 h2; subst h1; subst h2
  obtain ⟨p, hp, rfl⟩ := ha.ptr_inv
  obtain ⟨q, cs, T, hr⟩ := hs.rows _ _ _ _ hb
  obtain rfl : q = p := Option.some.inj (hr.at_.symm.trans hp)
  obtain rfl : T = t := hr.ty_ t rfl
  obtain ⟨h3, h4, h5⟩ := homes_spec (by simpa using hl)
  unfold sizeA at hn
  simp only [Option.map_eq_some_iff] at hn
  obtain ⟨j, hj, rfl⟩ := hn
  refine .same hs (Lib.run_from_unsafe w _ hu hd hj (shape_of hr) ?_) ha
  rw [hr.size, h3]
  have hcap := hr.len
  simp only [List.length_cons] at hcap
  rw [Nat.mul_div_cancel _ (by omega)]
  simpa using liesAt_mono _ (by omega) h5

theorem s_usd {ts : Array TypeId} {ty : TypeId} {a : AV} {x : Value} {v : AV} {st' : Store} (h : rUsd st [a] = some (v, st')) (ha : VRel φ μ a x) (hs : Sim B φ μ st w) :
    OutV P B φ μ (Builtin.unsafeSliceData_ ts ty #[x]) v st' w := by
  unfold rUsd at h
  split at h <;> try (cases h; done)
  · rename_i b off len heq
    simp only [List.cons.injEq, and_true] at heq
    subst heq
    split at h <;> try (cases h; done)
    rename_i hpos
    injection h with h; injection h with h1 h2; subst h1; subst h2
    obtain ⟨p, hp, hcap, rfl⟩ := ha.osl_inv
    refine .same hs (Lib.run_unsafeSliceData_row w ts ty _ _ _ (by omega)) ?_
    simpa using VRel.ptr (φ := φ) (μ := μ) b off 0 p hp
  · rename_i heq
    simp only [List.cons.injEq, and_true] at heq
    subst heq
    injection h with h; injection h with h1 h2; subst h1; subst h2
    rw [ha.nils_inv]
    exact .same hs (Lib.run_unsafeSliceData_nil w ts ty _ _) (.pure .nilp)

/-- What is frozen, is given up. -/
theorem Sim.frozen (h : Sim B φ μ st w) {i esz : Nat} {xs : List AV} {ro : Ro} {p : Place} {cs : Array Value} {T : TypeId} (hi : st[i]? = some (Blk.row esz xs ro)) (hr : RowOk φ μ w i esz xs ro p cs T) (o n : Nat) :
    Sim B φ μ (st.set i .dead) (w.freeze ⟨p.blk, o, none⟩ n) := by
  have hd := h.drop i
  have hother : ∀ b, b ≠ p.blk → (w.freeze ⟨p.blk, o, none⟩ n).heap[b]? = w.heap[b]? := fun b hb => by
    unfold World.freeze
    split
    · rfl
    · simp only [Array.getElem?_modify]
      rw [if_neg (Ne.symm hb)]
  have hsize : (w.freeze ⟨p.blk, o, none⟩ n).heap.size = w.heap.size := by
    unfold World.freeze
    split
    · rfl
    · simp
  have hcell : ∀ b j, (w.freeze ⟨p.blk, o, none⟩ n).cell? ⟨b, j, none⟩ = w.cell? ⟨b, j, none⟩ := fun b j => by
    by_cases hb : b = p.blk
    · subst hb
      unfold World.freeze
      split
      · rfl
      · simp only [World.cell?, Array.getElem?_modify, hr.heap, if_true, Option.map_some]
    · exact cell_of_heap (hother b hb)
  have hil : i < st.length := (List.getElem?_eq_some_iff.1 hi).1
  have hne : ∀ j e zs r q, (st.set i Blk.dead)[j]? = some (Blk.row e zs r) → φ j = some q → q.blk ≠ p.blk := fun j e zs r q hj hq hqp => by
    have hji : j ≠ i := fun he => by subst he; rw [List.getElem?_set_self hil] at hj; cases hj
    rw [List.getElem?_set_ne (Ne.symm hji)] at hj
    exact hji (h.inj j i _ _ _ _ _ _ q p hj hi hq hr.at_ hqp)
  refine ⟨fun b o' v hm => ?_, fun j e zs r hj => ?_, hd.inj, hd.own, fun b hb => ?_, fun b hb => ?_, hd.mu, hd.dom, hd.fresh, hd.hid, hd.io.trans (by unfold World.freeze; split <;> exact ⟨rfl, rfl⟩)⟩
  · rw [hcell]; exact hd.mem b o' v hm
  · obtain ⟨q, cs', T', hr'⟩ := hd.rows j e zs r hj
    exact ⟨q, cs', T', hr'.mono (Ext.refl _ _) (hother _ (hne j _ _ _ q hj hr'.at_)) hr'.mu⟩
  · rw [hother b (fun hb' => h.own i _ _ _ p hi hr.at_ (hb' ▸ hb))]
    exact hd.frame b hb
  · rw [hsize]; exact hd.lt b hb

theorem asU8_list {φ : Phi} {μ : Mu} : ∀ {xs : List AV} {s : List UInt8}, xs.mapM asU8 = some s → s.length = xs.length ∧ ∀ j, j < xs.length → ∃ n, xs.getD j .unk = .int .u8 n ∧ s.getD j 0 = UInt8.ofNat n.toNat
  | [], s, h => by simp at h; subst h; exact ⟨rfl, fun j hj => by simp at hj⟩
  | x :: xs, s, h => by
    simp only [List.mapM_cons, Option.bind_eq_bind, Option.bind_eq_some_iff, Option.pure_def, Option.some.injEq] at h
    obtain ⟨c, hc, s', hs', rfl⟩ := h
    obtain ⟨h1, h2⟩ := asU8_list (φ := φ) (μ := μ) hs'
    refine ⟨by simp [h1], fun j hj => ?_⟩
    cases j with
    | zero =>
      unfold asU8 at hc
      split at hc <;> try (cases hc; done)
      injection hc with hc
      exact ⟨_, rfl, by simpa using hc.symm⟩
    | succ j => simpa using h2 j (by simpa using hj)

theorem run_loadBytes_int : ∀ (ns : List Int) (a : Addr) (acc : ByteArray), (∀ j x, ns[j]? = some x → w.cell? (a.add j) = some (.int .u8 x)) →
    (loadBytes a acc ns.length).run P w = .ok ⟨acc.data ++ (ns.map fun n => UInt8.ofNat n.toNat).toArray⟩ w
  | [], a, acc, _ => by simp [loadBytes]
  | x :: l, a, acc, h => by
    have h0 : w.cell? a = some (.int .u8 x) := by
      have := h 0 x rfl
      simpa [Addr.add] using this
    have ih := run_loadBytes_int l (a.add 1) (acc.push x.toNat.toUInt8) (fun j y hy => by
      have := h (j + 1) y (by simpa using hy)
      have e : (a.add 1).add j = a.add (j + 1) := by
        unfold Addr.add
        by_cases hj : j = 0
        · subst hj; simp
        · simp [hj]; omega
      rw [e]; exact this)
    simp only [List.length_cons, loadBytes, Sem.run_bind, run_load, h0, Result.andThen]
    rw [ih]
    congr 1
    apply ByteArray.ext
    simp [ByteArray.push]

theorem run_ustr {pt it ty e : TypeId} (hp : P.underlying pt = some (.pointer e)) (hc : P.cellsOf e = 1) (g cells : Nat) (hsh : w.shape? g = some (e, cells)) (ns : List Int) (h0 : ns ≠ []) (hn : ns.length ≤ cells) (h63 : ns.length ≤ maxA)
    (hcell : ∀ j x, ns[j]? = some x → w.cell? ⟨g, j, none⟩ = some (.int .u8 x)) :
    (Builtin.unsafeString_ #[pt, it] ty #[.pointer (some ⟨g, 0, none⟩), .int .i64 ns.length]).run P w = .ok (.string ⟨(ns.map fun n => UInt8.ofNat n.toNat).toArray⟩) (w.freeze ⟨g, 0, none⟩ ns.length) := by
  have hl : ns.length ≠ 0 := by simpa using h0
  have hlb := run_loadBytes_int (P := P) (w := w) ns ⟨g, 0, none⟩ .empty (fun j x hx => by
    have := hcell j x hx
    have e : (⟨g, 0, none⟩ : Addr).add j = ⟨g, j, none⟩ := by
      unfold Addr.add
      by_cases hj : j = 0
      · subst hj; simp
      · simp [hj]
    rw [e]; exact this)
  have hlies := Lib.liesAt_bytes (P := P) hc (cells / P.cellsOf e) ns.length (by rw [hc]; simpa using hn)
  unfold maxA at h63
  have h63' : ¬ (9223372036854775807 : Int) < (ns.length : Int) := by omega
  have hdef : Builtin.unsafeString_ #[pt, it] ty #[.pointer (some ⟨g, 0, none⟩), .int .i64 ns.length] =
      (do
        let n ← asInt (.int .i64 ns.length)
        if n < 0 then runtimePanic (.error "unsafe.String: len out of range")
        if n > IntKind.i64.max then unsupported (.unsafePointer "String: a length above the largest int")
        if n = 0 then pure (.string .empty)
        else if ← variablesAt ⟨g, 0, none⟩ (← elemOf pt) n.toNat then do
          let s ← loadBytes ⟨g, 0, none⟩ .empty n.toNat
          freeze ⟨g, 0, none⟩ n.toNat
          pure (.string s)
        else unsupported (.unsafePointer "String: not so many bytes at ptr")) := rfl
  rw [hdef]
  have hmax : IntKind.i64.max = 9223372036854775807 := rfl
  have hneg : ¬ (ns.length : Int) < 0 := by omega
  simp [asInt, asIntOf, hmax, h63', hneg, hl, variablesAt, hsh, elemOf, run_underlying hp, hlies, hlb]

theorem s_ustr {pt it ty e : TypeId} (hp : P.underlying pt = some (.pointer e)) (hc : P.cellsOf e = 1) {a b : AV} {x y : Value} {v : AV} {st' : Store} (h : rUstr st e [a, b] = some (v, st')) (ha : VRel φ μ a x) (hb : VRel φ μ b y) (hs : Sim B φ μ st w) : OutV P B φ μ (Builtin.unsafeString_ #[pt, it] ty #[x, y]) v st' w := by
  unfold rUstr at h
  split at h <;> try (cases h; done)
  · rename_i i n heq
    simp only [List.cons.injEq, and_true] at heq
    obtain ⟨rfl, rfl⟩ := heq
    split at h <;> try (cases h; done)
    rename_i xs r t hb0
    split at h <;> try (cases h; done)
    rename_i hcond
    obtain ⟨rfl, hpos, hle, hmax⟩ := hcond
    simp only [Option.map_eq_some_iff, Prod.mk.injEq] at h
    obtain ⟨s, hsm, rfl, rfl⟩ := h
    obtain ⟨p, hp', rfl⟩ := ha.ptr_inv
    obtain ⟨q, cs, T, hr⟩ := hs.rows _ _ _ _ hb0
    obtain rfl : q = p := Option.some.inj (hr.at_.symm.trans hp')
    obtain rfl : T = t := hr.ty_ t rfl
    rw [hb.int_inv]
    obtain ⟨h1, h2⟩ := asU8_list (φ := φ) (μ := μ) hsm
    have hlen : (xs.take n.toNat).length = n.toNat := by simp; omega
    rw [hlen] at h1 h2
    have hcap := hr.len
    have hsize : n.toNat ≤ cs.size := by rw [hr.size]; omega
    -- the numbers in the cells
    let ns : List Int := (List.range n.toNat).map fun j => match xs.getD j .unk with | .int _ m => m | _ => 0
    have hnl : ns.length = n.toNat := by simp [ns]
    have hx : ∀ j, j < n.toNat → ∃ m, xs.getD j .unk = .int .u8 m ∧ s.getD j 0 = UInt8.ofNat m.toNat := fun j hj => by
      obtain ⟨m, g1, g2⟩ := h2 j hj
      refine ⟨m, ?_, g2⟩
      rw [← g1]
      simp [List.getD, List.getElem?_take, hj]
    have hns : ∀ j m, ns[j]? = some m → j < n.toNat ∧ xs.getD j .unk = .int .u8 m := fun j m hm => by
      have hj : j < n.toNat := by rw [← hnl]; exact (List.getElem?_eq_some_iff.1 hm).1
      obtain ⟨m', g1, _⟩ := hx j hj
      refine ⟨hj, ?_⟩
      simp only [ns, List.getElem?_map, List.getElem?_range hj, Option.map_some, g1, Option.some.injEq] at hm
      rw [g1, hm]
    have hcell : ∀ j m, ns[j]? = some m → w.cell? ⟨q.blk, j, none⟩ = some (.int .u8 m) := fun j m hm => by
      obtain ⟨hj, hg⟩ := hns j m hm
      have h3 := hr.rel j 0 (by omega) (by omega)
      rw [hg] at h3
      have h4 := heap_cell hr j (by omega)
      rw [h4]
      have h5 : VRel φ μ (.int .u8 m) (cs.getD j undef) := by simpa [AV.cells] using h3
      rw [h5.int_inv]
    have hrun := run_ustr (w := w) (P := P) (it := it) (ty := ty) hp hc q.blk cs.size (shape_of hr) ns (by intro h0; rw [h0] at hnl; simp at hnl; omega) (by omega) (by rw [hnl]; omega) hcell
    have hn' : ((ns.length : Nat) : Int) = n := by rw [hnl]; omega
    rw [hn'] at hrun
    have hs' : (ns.map fun n => UInt8.ofNat n.toNat) = s := by
      apply List.ext_getElem?
      intro j
      by_cases hj : j < n.toNat
      · obtain ⟨m, g1, g2⟩ := hx j hj
        have : ns[j]? = some m := by simp only [ns, List.getElem?_map, List.getElem?_range hj, Option.map_some, g1]
        rw [List.getElem?_map, this]
        have hjs : j < s.length := by omega
        simp only [Option.map_some]
        rw [← g2]
        simp [List.getD, List.getElem?_eq_getElem hjs]
      · rw [List.getElem?_eq_none (by simp; omega), List.getElem?_eq_none (by omega)]
    have e0 : (⟨q.blk, 0 * q.esz + 0, none⟩ : Addr) = ⟨q.blk, 0, none⟩ := by simp
    rw [e0]
    refine .mk hrun ?_ (hs.frozen hb0 hr _ _) (Ext.refl _ _)
    have := VRel.pure (φ := φ) (PRel.str (μ := μ) ⟨(ns.map fun n => UInt8.ofNat n.toNat).toArray⟩)
    simpa [hs'] using this
  · rename_i heq
    simp only [List.cons.injEq, and_true] at heq
    obtain ⟨rfl, rfl⟩ := heq
    injection h with h; injection h with h1 h2; subst h1; subst h2
    rw [hb.int_inv, ha.nilp_inv]
    refine .same hs (Lib.run_unsafeString_none w pt it ty none) ?_
    exact VRel.pure (φ := φ) (PRel.str (μ := μ) .empty)

/-! ### A function of the model's own -/
theorem noEscape_next : Extern.allNextRows.lookup "internal/abi.NoEscape" = none := by
  have : (Extern.allNextRows.lookup "internal/abi.NoEscape").isNone = true := by kernel_rfl
  simpa using this
theorem noOrigin_next : Extern.allNextRows.lookup "" = none := by
  have : (Extern.allNextRows.lookup "").isNone = true := by kernel_rfl
  simpa using this
theorem noEscape_gen : Extern.allGenericRows.lookup "internal/abi.NoEscape" = none := by
  have : (Extern.allGenericRows.lookup "internal/abi.NoEscape").isNone = true := by kernel_rfl
  simpa using this
theorem noEscape_typed : Extern.allTypedRows.lookup "internal/abi.NoEscape" = none := by
  have : (Extern.allTypedRows.lookup "internal/abi.NoEscape").isNone = true := by kernel_rfl
  simpa using this
theorem noEscape_row : Extern.allRows.lookup "internal/abi.NoEscape" = some Extern.AbiNoEscape.same := by kernel_rfl

theorem run_same {f : FuncId} (hf : sameFn P f = true) (x : Value) : (callFunc f #[x]).run P w = .ok (.value x) w := by
  unfold sameFn at hf
  cases hfn : P.funcs[f]? with
  | none => simp [hfn] at hf
  | some fn =>
    simp only [hfn, Bool.and_eq_true, beq_iff_eq] at hf
    obtain ⟨⟨hb, hname⟩, hor⟩ := hf
    have h1 : (fn.name == "runtime.NumGoroutine") = false := by rw [hname]; decide
    have h2 : Extern.findNext fn = none := by
      simp only [Extern.findNext, hname, hor, noEscape_next, noOrigin_next, Option.map_none]
      rfl
    have h3 : Extern.find fn = some Extern.AbiNoEscape.same := by
      simp only [Extern.find, hname, noEscape_gen, noEscape_typed, noEscape_row, Option.map_none]
      rfl
    rw [run_callFunc_extern hfn h1 hb h2 h3]
    rfl

end
end Go.Proofs.Ago
