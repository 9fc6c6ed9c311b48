import Derived.Test.YthamfjijeodpnaaGreatDoorAm1
import Derived.Laws.BytesArg
import Derived.Laws.IdiomStrings
import Derived.Laws.StructEq
import Derived.ChangeKeysEq
import Derived.MapKept
set_option linter.unusedSectionVars false
set_option linter.unusedVariables false
set_option linter.unusedSimpArgs false
set_option autoImplicit false
set_option linter.unusedVariables false
set_option linter.unusedSimpArgs false
namespace Go.Proofs.Am
open Go.RowKit

section
variable {P : Program} {tab : Tab} (ht : TabOk P tab) {m : Mem} {L : Locs} {w : World}

theorem beq_nat {a b : Nat} : Nat.beq a b = true ↔ a = b := ⟨Nat.eq_of_beq_eq_true, fun h => by subst h; exact Nat.beq_refl a⟩

include ht in
theorem fieldPlace_run {f : Field} {i : TInfo} (hi : tab.find f.type = some i) (h0 : Nat.beq i.size 0 = false) (b off : Nat) :
    (fieldPlace ⟨b, off, none⟩ f).run P w = .ok ⟨b, off + f.offset, none⟩ w := by
  have h0' : i.size ≠ 0 := fun h => by rw [h] at h0; cases h0
  simp only [fieldPlace, Sem.run_bind, run_sizeOf' ht hi, Result.andThen_ok, Sem.run_ite, if_neg h0', Sem.run_pure, addr_add]

include ht in
theorem fieldAddr_run {T : TypeId} {p : AV} {v : Value} {i : Nat} {x : AV} (h : ARep m L p v) (hx : fieldAddrAV tab T p i = some x) :
    ∃ v', ARep m L x v' ∧ (Instr.fieldAt T v i).run P w = .ok v' w := by
  cases h <;> simp only [fieldAddrAV] at hx <;> try (simp at hx; done)
  case ptr s j off b o hl =>
    split at hx
    · rename_i o' T' hs
      obtain ⟨fields, hu, f, hf, rfl, rfl⟩ := structField_some ht hs
      split at hx
      · rename_i fi hfi
        cases h0 : Nat.beq fi.size 0 with
        | true => simp [h0] at hx
        | false =>
          simp only [h0, cond_false, Option.some.injEq] at hx
          subst hx
          refine ⟨_, .ptr s j (off + f.offset) b o hl, ?_⟩
          simp only [Instr.fieldAt, Sem.run_bind, run_under hu, Result.andThen_ok, hf, Instr.sureAddr, Sem.run_pure, fieldPlace_run ht hfi h0, Nat.add_assoc]
      · cases hx
    · cases hx
  case pel t y b off cs hm hr =>
    split at hx
    · rename_i o' T' hs
      obtain ⟨fields, hu, f, hf, rfl, rfl⟩ := structField_some ht hs
      split at hx
      · rename_i fi t' v' hfi hfa
        cases hc : (fits fi t' && !(Nat.beq fi.size 0)) with
        | false => simp [hc] at hx
        | true =>
          simp only [hc, cond_true, Option.some.injEq] at hx
          subst hx
          simp only [Bool.and_eq_true, Bool.not_eq_true'] at hc
          obtain ⟨c1, c2, c3, rfl, hlen, hr2⟩ := fieldAt_rep hr hfa
          refine ⟨_, .pel t' v' b (off + f.offset) c2 (fun j hj => ?_) hr2, ?_⟩
          · have h1 := hr.length
            have h2 := hr2.length
            simp only [List.length_append] at h1
            have := hm (f.offset + j) (by omega)
            rw [Nat.add_assoc, this, List.append_assoc, List.getElem?_append_right (by omega), List.getElem?_append_left (by omega)]
            congr 1
            omega
          · simp only [Instr.fieldAt, Sem.run_bind, run_under hu, Result.andThen_ok, hf, Instr.sureAddr, Sem.run_pure, fieldPlace_run ht hfi hc.2]
      · cases hx
    · cases hx

include ht in
theorem field_run {T : TypeId} {p : AV} {v : Value} {i : Nat} {x : AV} (h : ARep m L p v) (hx : fieldAV tab T p i = some x) :
    ∃ v', ARep m L x v' ∧ (Instr.field T v i).run P w = .ok v' w := by
  unfold fieldAV at hx
  split at hx
  · rename_i o' T' hs
    obtain ⟨fields, hu, f, hf, rfl, rfl⟩ := structField_some ht hs
    split at hx
    · rename_i fi hfi
      split at hx
      · rename_i t y
        split at hx
        · rename_i t' v' hfa
          cases hc : fits fi t' with
          | false => simp [hc] at hx
          | true =>
            simp only [hc, cond_true, Option.some.injEq] at hx
            subst hx
            rcases h.data with ⟨ha, hr⟩ | ⟨ha, cs, rfl, hr⟩
            · cases t <;> simp [fieldAt, dataField] at hfa <;> simp [Ty.agg] at ha
            · obtain ⟨c1, c2, c3, rfl, hlen, hr2⟩ := fieldAt_rep hr hfa
              obtain ⟨v', h1, h2⟩ := part_run (L := L) (w := w) hfi (c1 := c1) (c3 := c3) hc hr2 ht
              refine ⟨v', h1, ?_⟩
              simp only [Instr.field, Sem.run_bind, run_under hu, Result.andThen_ok, hf, asAgg, Sem.run_pure]
              rw [← hlen]; exact h2
        · cases hx
      · rename_i ls
        cases h with
        | st _ cs hn h1 h =>
          obtain ⟨c1, c2, c3, rfl, hlen, hsz, hr⟩ := takeLeaves_rep (L := L) ⟨hn, h⟩ h1 hx
          rcases hr with ⟨ha, hr⟩ | ⟨ha, c, rfl, hr⟩
          · refine ⟨_, hr, ?_⟩
            simp only [Instr.field, Sem.run_bind, run_under hu, Result.andThen_ok, hf, asAgg, Sem.run_pure, part, run_isAgg' ht hfi, ha, if_true, run_sizeOf' ht hfi]
            congr 2
            simp [← hlen, ← hsz]
          · refine ⟨_, hr, ?_⟩
            simp only [Instr.field, Sem.run_bind, run_under hu, Result.andThen_ok, hf, asAgg, Sem.run_pure, part, run_isAgg' ht hfi, ha]
            simp [← hlen]
      · cases hx
    · cases hx
  · cases hx

theorem natLit_rep {x : AV} {v : Value} {k : Nat} (h : ARep m L x v) (hx : natLit x = some k) : ∃ kd, v = .int kd (k : Int) := by
  unfold natLit at hx
  split at hx
  · rename_i kd n hi
    simp only [Option.some.injEq] at hx
    subst hx
    exact ⟨kd, (intOf_rep h hi).1⟩
  · cases hx

include ht in
theorem arrayOf_some {T : TypeId} {n : Nat} {i : TInfo} (h : arrayOf tab T = some (n, i)) : ∃ e, P.underlying T = some (.array n e) ∧ tab.find e = some i := by
  unfold arrayOf at h
  split at h
  · rename_i n' e size bytes zero ty teq hi
    simp only [Option.map_eq_some_iff, Prod.mk.injEq] at h
    obtain ⟨i', he, rfl, rfl⟩ := h
    exact ⟨e, under_array ht hi rfl, he⟩
  · cases h

include ht in
theorem sliceOf_some {T : TypeId} {i : TInfo} (h : sliceOf tab T = some i) : ∃ e, P.underlying T = some (.slice e) ∧ tab.find e = some i := by
  unfold sliceOf at h
  split at h
  · rename_i e size bytes zero ty teq hi
    exact ⟨e, under_slice ht hi rfl, h⟩
  · cases h

include ht in
theorem indexAddr_list {T : TypeId} {x : AV} {vx : Value} {t : Ty} {xs : List t.den} {k : IntKind} {n : Int} {ei : TInfo} {v : AV} (hx : ARep m L x vx) (hl : listOf x = some ⟨t, xs⟩)
    (he : sliceOf tab T = some ei) (h : (bif fits ei t then Tree.opt t (idx xs n) fun v => .leaf (AV.pel t v) else .fail).run = some v) :
    ∃ v', ARep m L v v' ∧ (Instr.indexAt T vx (.int k n)).run P w = .ok v' w := by
  cases hf : fits ei t with
  | false => simp [hf] at h
  | true =>
    simp only [hf, cond_true, Tree.run_opt, Tree.run_leaf, Option.bind_eq_some_iff, Option.some.injEq] at h
    obtain ⟨y, hy, rfl⟩ := h
    obtain ⟨e, hu, hei⟩ := sliceOf_some ht he
    obtain ⟨A, n', c, rfl, hr⟩ := listOf_rep hx hl
    obtain ⟨h0, hi, rfl⟩ := idx_some hy
    obtain ⟨hs, _⟩ := fits_size hf
    cases hr with
    | nil => simp at hi
    | list _ b off _ _ _ cs hn hlen hc hm h =>
      have hin : n.toNat < n' := by omega
      refine ⟨.pointer (some ⟨b, off + n.toNat * t.size, none⟩), .pel t _ b _ (cs n.toNat) (fun j hj => (hm _ hin).2 j hj) (h _ hi), ?_⟩
      have hcond : (0 ≤ n ∧ n < (n' : Int)) := ⟨h0, by omega⟩
      simp only [Instr.indexAt, asIntOf, Sem.run_bind, Sem.run_pure, Result.andThen_ok, run_under hu, Sem.run_ite, hcond, if_true, and_self, run_sizeOf' ht hei, addr_add, hs]

include ht in
theorem indexAddr_run {T : TypeId} {x i : AV} {vx vi : Value} {ic : Bool} {v : AV} (hx : ARep m L x vx) (hi : ARep m L i vi) (h : (indexAddrT tab T x i ic).run = some v) :
    ∃ v', ARep m L v v' ∧ (Instr.indexAt T vx vi).run P w = .ok v' w := by
  unfold indexAddrT at h
  split at h
  · rename_i s j off
    split at h
    · rename_i n ei k ha hk
      cases hb : Nat.blt k n with
      | false => simp [hb] at h
      | true =>
        simp only [hb, cond_true, Tree.run_leaf, Option.some.injEq] at h
        subst h
        obtain ⟨e, hu, hei⟩ := arrayOf_some ht ha
        obtain ⟨kd, rfl⟩ := natLit_rep hi hk
        cases hx with
        | ptr _ _ _ b o hl =>
          refine ⟨_, .ptr s j (off + k * ei.size) b o hl, ?_⟩
          have hkn : k < n := by simpa [Nat.blt_eq] using hb
          have hcond : ((0 : Int) ≤ (k : Int) ∧ (k : Int) < (n : Int)) := ⟨by omega, by omega⟩
          simp only [Instr.indexAt, asIntOf, Sem.run_bind, Sem.run_pure, Result.andThen_ok, run_under hu, Instr.sureAddr, Sem.run_ite, hcond, if_true, and_self, run_sizeOf' ht hei, addr_add, Int.toNat_natCast, Nat.add_assoc]
    · simp at h
  · rename_i t y
    split at h
    · rename_i n ei k ha hk
      cases hb : Nat.blt k n with
      | false => simp [hb] at h
      | true =>
        simp only [hb, cond_true] at h
        split at h
        · rename_i t' v' hfa
          cases hc : fits ei t' with
          | false => simp [hc] at h
          | true =>
            simp only [hc, cond_true, Tree.run_leaf, Option.some.injEq] at h
            subst h
            obtain ⟨e, hu, hei⟩ := arrayOf_some ht ha
            obtain ⟨kd, rfl⟩ := natLit_rep hi hk
            cases hx with
            | pel _ _ b off cs hm hr =>
              obtain ⟨c1, c2, c3, rfl, hlen, hr2⟩ := fieldAt_rep hr hfa
              refine ⟨_, .pel t' v' b (off + k * ei.size) c2 (fun j hj => ?_) hr2, ?_⟩
              · have h1 := hr.length
                have h2 := hr2.length
                simp only [List.length_append] at h1
                have := hm (k * ei.size + j) (by omega)
                rw [Nat.add_assoc, this, List.append_assoc, List.getElem?_append_right (by omega), List.getElem?_append_left (by omega)]
                congr 1
                omega
              · have hkn : k < n := by simpa [Nat.blt_eq] using hb
                have hcond : ((0 : Int) ≤ (k : Int) ∧ (k : Int) < (n : Int)) := ⟨by omega, by omega⟩
                simp only [Instr.indexAt, asIntOf, Sem.run_bind, Sem.run_pure, Result.andThen_ok, run_under hu, Instr.sureAddr, Sem.run_ite, hcond, if_true, and_self, run_sizeOf' ht hei, addr_add, Int.toNat_natCast]
        · simp at h
    · simp at h
  · split at h
    · rename_i t xs kd n ei hl hin he
      obtain ⟨rfl, _⟩ := intOf_rep hi hin
      exact indexAddr_list ht hx hl he h
    · simp at h

theorem data_get {s : ByteArray} {n : Nat} {hi : n < s.data.toList.length} : s[n]? = some (s.data.toList[n]'hi) := by
  have : n < s.size := hi
  rw [show s[n]? = if h : n < s.size then some s[n] else none from rfl, dif_pos this]
  rfl

include ht in
theorem index_run {T : TypeId} {x i : AV} {vx vi : Value} {ic : Bool} {v : AV} (hx : ARep m L x vx) (hi : ARep m L i vi) (h : (indexT tab T x i ic).run = some v) :
    ∃ v', ARep m L v v' ∧ (Instr.index T vx vi).run P w = .ok v' w := by
  unfold indexT at h
  split at h
  · rename_i s kd n hs hn
    cases hT : isStrT tab T with
    | false => simp [hT] at h
    | true =>
      simp only [hT, cond_true, Tree.run_opt, Tree.run_leaf, Option.bind_eq_some_iff, Option.map_eq_some_iff, Option.some.injEq] at h
      obtain ⟨y, ⟨c, hc, rfl⟩, rfl⟩ := h
      obtain ⟨s', rfl, rfl, _⟩ := strOf_rep hx hs
      obtain ⟨rfl, _⟩ := intOf_rep hi hn
      obtain ⟨h0, hlt, rfl⟩ := idx_some hc
      have hu : P.underlying T = some .string := by
        unfold isStrT at hT
        split at hT
        · rename_i hi'; exact under_str ht hi' rfl
        · cases hT
      refine ⟨.int .u8 ((s'.data.toList[n.toNat]).toNat : Int), ok_int ?_, ?_⟩
      · have := (s'.data.toList[n.toNat]).toNat_lt
        have e1 : IntKind.min .u8 = 0 := rfl
        have e2 : IntKind.max .u8 = 255 := rfl
        unfold inRange
        rw [e1, e2]
        omega
      · simp only [Instr.index, asIntOf, Sem.run_bind, Sem.run_pure, Result.andThen_ok, run_under hu, h0, if_true, data_get (hi := hlt)]
  · split at h
    · rename_i k n ei hk ha
      cases hb : Nat.blt k n with
      | false => simp [hb] at h
      | true =>
        simp only [hb, cond_true] at h
        obtain ⟨e, hu, hei⟩ := arrayOf_some ht ha
        obtain ⟨kd, rfl⟩ := natLit_rep hi hk
        have hkn : k < n := by simpa [Nat.blt_eq] using hb
        have hcond : ((0 : Int) ≤ (k : Int) ∧ (k : Int) < (n : Int)) := ⟨by omega, by omega⟩
        split at h
        · rename_i t y _
          split at h
          · rename_i t' v' hfa
            cases hc : fits ei t' with
            | false => simp [hc] at h
            | true =>
              simp only [hc, cond_true, Tree.run_leaf, Option.some.injEq] at h
              subst h
              rcases hx.data with ⟨ha', hr⟩ | ⟨ha', cs, rfl, hr⟩
              · cases t <;> simp [fieldAt, dataField] at hfa <;> simp [Ty.agg] at ha'
              · obtain ⟨c1, c2, c3, rfl, hlen, hr2⟩ := fieldAt_rep hr hfa
                obtain ⟨v'', h1, h2⟩ := part_run (L := L) (w := w) hei (c1 := c1) (c3 := c3) hc hr2 ht
                refine ⟨v'', h1, ?_⟩
                simp only [Instr.index, asIntOf, Sem.run_bind, Sem.run_pure, Result.andThen_ok, run_under hu, Sem.run_ite, hcond, if_true, and_self, run_sizeOf' ht hei, Int.toNat_natCast]
                rw [← hlen]; exact h2
          · simp at h
        · rename_i ls
          simp only [Tree.run_ofOption] at h
          cases hx with
          | st _ cs hn h1 hx =>
            obtain ⟨c1, c2, c3, rfl, hlen, hsz, hr⟩ := takeLeaves_rep (L := L) ⟨hn, hx⟩ h1 h
            rcases hr with ⟨ha', hr⟩ | ⟨ha', c, rfl, hr⟩
            · refine ⟨_, hr, ?_⟩
              simp only [Instr.index, asIntOf, Sem.run_bind, Sem.run_pure, Result.andThen_ok, run_under hu, Sem.run_ite, hcond, if_true, and_self, run_sizeOf' ht hei, Int.toNat_natCast, part, run_isAgg' ht hei, ha']
              congr 2
              rw [← hlen, ← hsz]
              simp
            · refine ⟨_, hr, ?_⟩
              simp only [Instr.index, asIntOf, Sem.run_bind, Sem.run_pure, Result.andThen_ok, run_under hu, Sem.run_ite, hcond, if_true, and_self, run_sizeOf' ht hei, Int.toNat_natCast, part, run_isAgg' ht hei, ha']
              simp [← hlen]
        · simp at h
    · simp at h
end
end Go.Proofs.Am

set_option autoImplicit false
set_option linter.unusedVariables false
set_option linter.unusedSimpArgs false
namespace Go.Proofs.Am
open Go.RowKit

section
variable {P : Program} {tab : Tab} (ht : TabOk P tab) {m : Mem} {L : Locs} {w : World}

theorem size_data {s : ByteArray} : s.size = s.data.toList.length := rfl

include ht in
theorem len_run {T ty : TypeId} {x : AV} {vx : Value} {v : AV} (hx : ARep m L x vx) (h : (lenAV ((tab.find T).map (·.desc)) x).run = some v) :
    ∃ v', ARep m L v v' ∧ (Builtin.len_ #[T] ty #[vx]).run P w = .ok v' w := by
  cases hi : tab.find T with
  | none => simp [hi, lenAV] at h
  | some i =>
    simp only [hi, Option.map_some] at h
    cases hd : i.desc <;> simp only [hd, lenAV, Tree.run_fail, reduceCtorEq] at h
    case str =>
      split at h
      · rename_i s hs
        simp only [Tree.run_leaf, Option.some.injEq] at h
        subst h
        obtain ⟨s', rfl, rfl, hsz⟩ := strOf_rep hx hs
        refine ⟨_, ok_int (i64_len hsz), ?_⟩
        simp [Builtin.len_, run_under (under_str ht hi hd), goInt]
      · simp at h
    case slice e =>
      have hu := under_slice ht hi hd
      split at h
      · rename_i t xs hs
        simp only [Tree.run_leaf, Option.some.injEq] at h
        subst h
        obtain ⟨A, n, c, rfl, hr⟩ := listOf_rep hx hs
        obtain ⟨h1, h2⟩ := list_len hr
        refine ⟨_, ok_int (i64_len (h1 ▸ h2)), ?_⟩
        simp [Builtin.len_, run_under hu, goInt, h1]
      · split at h
        · simp only [Tree.run_leaf, Option.some.injEq] at h
          subst h
          cases hx
          refine ⟨_, ok_int (i64_len (Nat.zero_le _)), ?_⟩
          simp [Builtin.len_, run_under hu, goInt]
        · simp at h
    case array n e =>
      cases hb : Nat.ble n maxStr with
      | false => simp [hb] at h
      | true =>
        simp only [hb, cond_true, Tree.run_leaf, Option.some.injEq] at h
        subst h
        exact ⟨_, ok_int (i64_len (Nat.le_of_ble_eq_true hb)), by simp [Builtin.len_, run_under (under_array ht hi hd), goInt]⟩

theorem extract_list (s : ByteArray) (l h : Nat) : (s.extract l h).data.toList = (s.data.toList.take h).drop l := by
  rw [ByteArray.data_extract, Array.toList_extract, List.extract_eq_take_drop]
  rw [List.drop_take]

theorem optInt_rep {x : Option AV} {vx : Option Value} {d n : Int} (hx : match x, vx with | none, none => True | some x, some v => ARep m L x v | _, _ => False) (h : optInt x d = some n) :
    (x = none ∧ vx = none ∧ n = d) ∨ ∃ k, vx = some (.int k n) := by
  unfold optInt at h
  cases x with
  | none =>
    cases vx with
    | none => simp at h; exact .inl ⟨rfl, rfl, h.symm⟩
    | some v => exact hx.elim
  | some x =>
    cases vx with
    | none => exact hx.elim
    | some v =>
      simp only at h
      split at h
      · rename_i k n' hk
        simp only [Option.some.injEq] at h
        subst h
        exact .inr ⟨k, by rw [(intOf_rep hx hk).1]⟩
      · cases h

theorem bounds_run {isSlice : Bool} {len cap : Nat} {lo hi : Option AV} {vlo vhi : Option Value} {l h : Int}
    (hlo : match lo, vlo with | none, none => True | some x, some v => ARep m L x v | _, _ => False) (hhi : match hi, vhi with | none, none => True | some x, some v => ARep m L x v | _, _ => False)
    (h1 : optInt lo 0 = some l) (h2 : optInt hi len = some h) (hle : 0 ≤ l ∧ l ≤ h ∧ h ≤ len) (hc : len ≤ cap) :
    (Instr.sliceBounds isSlice len cap vlo vhi none).run P w = .ok (l.toNat, h.toNat, cap) w := by
  have hb : ∀ (k : IntKind) (n : Int) (y : Nat) (c : BoundsCode), 0 ≤ n → n ≤ y → (Instr.sliceBound (.int k n) y c).run P w = .ok n.toNat w := by
    intro k n y c a b
    simp only [Instr.sliceBound, asIntOf, Sem.run_bind, Sem.run_pure, Result.andThen_ok, Sem.run_ite, if_pos (And.intro a b)]
  rcases optInt_rep hhi h2 with ⟨_, rfl, rfl⟩ | ⟨k, rfl⟩
  · rcases optInt_rep hlo h1 with ⟨_, rfl, rfl⟩ | ⟨k, rfl⟩
    · simp [Instr.sliceBounds]
    · simp only [Instr.sliceBounds, Sem.run_bind, Sem.run_pure, Result.andThen_ok, hb k l len _ hle.1 (by omega), Option.isSome_none, Int.toNat_natCast]
  · rcases optInt_rep hlo h1 with ⟨_, rfl, rfl⟩ | ⟨k', rfl⟩
    · simp only [Instr.sliceBounds, Sem.run_bind, Sem.run_pure, Result.andThen_ok, hb k h cap _ (by omega) (by omega), Option.isSome_none]
      try rfl
    · simp only [Instr.sliceBounds, Sem.run_bind, Sem.run_pure, Result.andThen_ok, hb k h cap _ (by omega) (by omega), hb k' l h.toNat _ hle.1 (by omega), Option.isSome_none]

theorem cut_rep {t : Ty} {xs : List t.den} {A : Option Addr} {n c l h : Nat} {i : TInfo} (hr : RepC m (.list t) [.slice A n c] xs) (hs : i.size = t.size) (h1 : l ≤ h) (h2 : h ≤ n) :
    RepC m (.list t) [.slice (if c = l then A else A.map (·.add (l * i.size))) (h - l) (c - l)] ((xs.take h).drop l) := by
  cases hr with
  | nil =>
    have : h - l = 0 := by omega
    rw [this]
    simpa using RepC.nil (m := m) t (if c = l then A else A.map (·.add (l * i.size))) (c - l)
  | list _ b off _ _ _ cs hn hl hc hm hh =>
    by_cases hz : h = l
    · subst hz
      have e : (xs.take h).drop h = [] := by simp
      rw [e, Nat.sub_self]
      exact .nil _ _ _
    · have hcl : ¬ c = l := by omega
      rw [if_neg hcl]
      simp only [Option.map_some, addr_add, hs]
      have hlen : ((xs.take h).drop l).length = h - l := by simp; omega
      refine .list t b (off + l * t.size) (h - l) (c - l) _ (fun i => cs (l + i)) hlen (by omega) (by omega) (fun i hi => ⟨(hm (l + i) (by omega)).1, fun j hj => ?_⟩) (fun i hi => ?_)
      · have := (hm (l + i) (by omega)).2 j hj
        rw [← this]
        congr 1
        rw [Nat.add_mul]; omega
      · have hi' : l + i < xs.length := by omega
        have := hh (l + i) hi'
        have e : ((xs.take h).drop l)[i] = xs[l + i] := by simp
        rw [e]
        exact this

include ht in
theorem slice_run {T : TypeId} {x : AV} {vx : Value} {lo hi : Option AV} {vlo vhi : Option Value} {v : AV} (hx : ARep m L x vx)
    (hlo : match lo, vlo with | none, none => True | some x, some v => ARep m L x v | _, _ => False) (hhi : match hi, vhi with | none, none => True | some x, some v => ARep m L x v | _, _ => False)
    (h : (sliceAV tab T x lo hi).run = some v) : ∃ v', ARep m L v v' ∧ (Instr.sliceAt T vx vlo vhi none).run P w = .ok v' w := by
  unfold sliceAV at h
  split at h
  · rename_i s size bytes zero ty teq hi' hs
    have hu := under_str ht hi' rfl
    obtain ⟨s', rfl, rfl, hsz⟩ := strOf_rep hx hs
    split at h
    · rename_i l hh h1 h2
      simp only [Tree.run_guard, Tree.run_leaf] at h
      cases hg : (decide (0 ≤ l) && decide (l ≤ hh) && decide (hh ≤ (s'.data.toList.length : Int))) with
      | false => simp only [hg, cond_false, reduceCtorEq] at h
      | true =>
        simp only [hg, cond_true, Option.some.injEq] at h
        subst h
        simp only [Bool.and_eq_true, decide_eq_true_eq] at hg
        have hb := bounds_run (P := P) (w := w) (isSlice := false) (len := s'.size) (cap := s'.size) hlo hhi h1 h2 ⟨hg.1.1, hg.1.2, hg.2⟩ (Nat.le_refl _)
        refine ⟨.string (s'.extract l.toNat hh.toNat), ok_str (by rw [extract_list]; rfl) (by rw [ByteArray.size_extract]; omega), ?_⟩
        simp [Instr.sliceAt, Instr.slice, run_under hu, hb]
    · simp at h
  · rename_i e size bytes zero ty teq hi' hs
    have hu := under_slice ht hi' rfl
    split at h
    · rename_i t xs ei hl hei
      cases hf : fits ei t with
      | false => simp [hf] at h
      | true =>
        simp only [hf, cond_true] at h
        obtain ⟨A, n, c, rfl, hr⟩ := listOf_rep hx hl
        obtain ⟨hn, hmax⟩ := list_len hr
        have hnc : n ≤ c := by cases hr <;> omega
        split at h
        · rename_i l hh h1 h2
          simp only [Tree.run_guard, Tree.run_leaf] at h
          cases hg : (decide (0 ≤ l) && decide (l ≤ hh) && decide (hh ≤ (xs.length : Int))) with
          | false => simp only [hg, cond_false, reduceCtorEq] at h
          | true =>
            simp only [hg, cond_true, Option.some.injEq] at h
            subst h
            simp only [Bool.and_eq_true, decide_eq_true_eq] at hg
            rw [hn] at h2 hg
            have hb := bounds_run (P := P) (w := w) (isSlice := true) (len := n) (cap := c) hlo hhi h1 h2 ⟨hg.1.1, hg.1.2, hg.2⟩ hnc
            refine ⟨_, .d1 _ _ _ rfl (cut_rep hr (fits_size hf).1 (l := l.toNat) (h := hh.toNat) (by omega) (by omega)), ?_⟩
            simp [Instr.sliceAt, Instr.slice, run_under hu, hb, run_sizeOf' ht hei]
        · simp at h
    · simp at h
  · simp at h

theorem un_run {op : UnOp} {x : AV} {vx : Value} {v : AV} (hx : ARep m L x vx) (h : (unAV op x).run = some v) : ∃ v', ARep m L v v' ∧ (Op.unary op vx).run P w = .ok v' w := by
  unfold unAV at h
  split at h
  · cases hx
    cases op <;> simp at h
    subst h
    exact ⟨_, .ff, by simp [Op.unary]⟩
  · cases hx
    cases op <;> simp at h
    subst h
    exact ⟨_, .tt, by simp [Op.unary]⟩
  · split at h
    · rename_i b hb
      obtain rfl := boolOf_rep hx hb
      cases op <;> simp at h
      subst h
      exact ⟨_, ok_bool, by simp [Op.unary]⟩
    · rename_i k n hb hi
      obtain ⟨rfl, _⟩ := intOf_rep hx hi
      cases op <;> simp at h
      · subst h
        exact ⟨_, ok_int (wrap_range _ _), by simp [Op.unary, Op.intArith]⟩
      · subst h
        refine ⟨_, ok_int (wrap_range _ _), ?_⟩
        cases hk : k.signed <;> simp [Op.unary, Op.intBits, hk]
    · simp at h

theorem pick_run {c a b : AV} {vc va vb : Value} {v : AV} (hc : ARep m L c vc) (ha : ARep m L a va) (hb : ARep m L b vb) (h : (pickAV c a b).run = some v) :
    ∃ v', ARep m L v v' ∧ (do pure (if ← asBool vc then va else vb) : Sem Value).run P w = .ok v' w := by
  unfold pickAV at h
  split at h
  · cases hc
    simp at h; subst h
    exact ⟨va, ha, by simp [asBool]⟩
  · cases hc
    simp at h; subst h
    exact ⟨vb, hb, by simp [asBool]⟩
  · split at h
    · rename_i t ht
      obtain rfl := boolOf_rep hc ht
      cases t <;> simp at h <;> subst h
      · exact ⟨vb, hb, by simp [asBool]⟩
      · exact ⟨va, ha, by simp [asBool]⟩
    · simp at h
end
end Go.Proofs.Am

set_option autoImplicit false
set_option linter.unusedVariables false
set_option linter.unusedSimpArgs false
namespace Go.Proofs.Am
open Go.RowKit

section
variable {P : Program} {tab : Tab} (ht : TabOk P tab) {m : Mem} {L : Locs} {w : World}

theorem foldl_put (off : Nat) : ∀ (vs : List Value) (k : Nat) (cs : Array Value), off + k + vs.length ≤ cs.size →
    ((vs.zipIdx k).foldl (fun cs (p : Value × Nat) => cs.setIfInBounds (off + p.2) p.1) cs).toList = cs.toList.take (off + k) ++ vs ++ cs.toList.drop (off + k + vs.length)
  | [], k, cs, h => by simp
  | v :: vs, k, cs, h => by
    simp only [List.length_cons] at h
    rw [List.zipIdx_cons, List.foldl_cons, foldl_put off vs (k + 1) _ (by simp; omega)]
    simp only [Array.toList_setIfInBounds]
    have h1 : off + k < cs.toList.length := by simp; omega
    rw [List.take_set, show off + (k + 1) = off + k + 1 by omega, List.drop_set]
    rw [if_pos (by omega)]
    have h2 : (cs.toList.take (off + k + 1)).set (off + k) v = cs.toList.take (off + k) ++ [v] := by
      have hs : cs.toList.length = cs.size := by simp
      have hl : (cs.toList.take (off + k)).length = off + k := by rw [List.length_take]; omega
      rw [List.take_succ_eq_append_getElem h1, List.set_append, if_neg (by omega), hl]
      simp
    rw [h2]
    simp [Nat.add_assoc, Nat.add_comm, Nat.add_left_comm]

theorem fold_put (v : Value) (off : Nat) (cs : Array Value) (h : off + v.cells.size ≤ cs.size) :
    (v.cells.zipIdx.foldl (fun cs (p : Value × Nat) => cs.setIfInBounds (off + p.2) p.1) cs).toList = cs.toList.take off ++ v.cells.toList ++ cs.toList.drop (off + v.cells.size) := by
  rw [← Array.foldl_toList, Array.toList_zipIdx]
  have := foldl_put off v.cells.toList 0 cs (by simpa using h)
  simpa using this

theorem putLeaves_some {ls new ls' : List AV} {off : Nat} (h : putLeaves ls new off = some ls') : off + new.length ≤ ls.length ∧ ls' = ls.take off ++ new ++ ls.drop (off + new.length) := by
  unfold putLeaves at h
  cases hb : Nat.ble (off + new.length) ls.length with
  | false => simp only [hb, cond_false, reduceCtorEq] at h
  | true =>
    simp only [hb, cond_true, Option.some.injEq] at h
    exact ⟨Nat.le_of_ble_eq_true hb, h.symm⟩

theorem put_rep {ls new : List AV} {cs ncs : List Value} {off : Nat} (h : ReL m L ls cs) (hn : ReL m L new ncs) (hle : off + new.length ≤ ls.length) :
    ReL m L (ls.take off ++ new ++ ls.drop (off + new.length)) (cs.take off ++ ncs ++ cs.drop (off + ncs.length)) := by
  have e1 : ls = ls.take off ++ (ls.drop off) := by simp
  have hl := h.1
  rw [e1] at h
  obtain ⟨c1, c2, rfl, r1, r2⟩ := h.split
  have hc1 : c1.length = off := by rw [r1.1]; simp; omega
  have e2 : ls.drop off = (ls.drop off).take new.length ++ (ls.drop off).drop new.length := by simp only [List.take_append_drop]
  rw [e2] at r2
  obtain ⟨c3, c4, rfl, r3, r4⟩ := r2.split
  have hc3 : c3.length = new.length := by rw [r3.1]; simp; omega
  have hnn : ncs.length = new.length := hn.1
  have e3 : (c1 ++ (c3 ++ c4)).take off = c1 := by rw [← hc1]; simp
  have e4 : (c1 ++ (c3 ++ c4)).drop (off + ncs.length) = c4 := by rw [hnn, ← hc1, ← hc3, ← List.drop_drop]; simp
  rw [e3, e4]
  refine (r1.append hn).append ?_
  rwa [List.drop_drop] at r4

theorem fill_run (pl : Nat → Option (Nat × Nat)) : ∀ (parts : List (Nat × AV)) (vparts : List (Nat × Value)) (ls ls' : List AV) (cs : Array Value), vparts.map (·.1) = parts.map (·.1) → ReL m L (parts.map (·.2)) (vparts.map (·.2)) →
    ReL m L ls cs.toList → (∀ c ∈ cs.toList, c.oneCell' = true) → fillAV pl ls parts = some ls' →
    ∃ cs', Instr.fill pl cs vparts = some cs' ∧ ReL m L ls' cs'.toList ∧ ∀ c ∈ cs'.toList, c.oneCell' = true
  | [], vparts, ls, ls', cs, hi, hr, hl, h1, h => by
    simp only [fillAV, Option.some.injEq] at h
    subst h
    have : vparts = [] := by simpa using hi
    subst this
    exact ⟨cs, rfl, hl, h1⟩
  | (i, x) :: parts, [], ls, ls', cs, hi, hr, hl, h1, h => by simp at hi
  | (i, x) :: parts, (i', v) :: vparts, ls, ls', cs, hi, hr, hl, h1, h => by
    simp only [List.map_cons, List.cons.injEq] at hi
    obtain ⟨rfl, hi⟩ := hi
    simp only [List.map_cons] at hr
    obtain ⟨v0, vs0, he, hv, hr⟩ := hr.head
    simp only [List.cons.injEq] at he
    obtain ⟨rfl, rfl⟩ := he
    simp only [fillAV] at h
    split at h
    · cases h
    · rename_i off size hp
      split at h
      · cases h
      · rename_i new hnew
        cases hb : Nat.beq new.length size with
        | false => simp only [hb, cond_false, reduceCtorEq] at h
        | true =>
          simp only [hb, cond_true] at h
          split at h
          · rename_i ls1 hput
            obtain ⟨hle, rfl⟩ := putLeaves_some hput
            obtain ⟨hc, ho⟩ := cellsOf_rep hv hnew
            have hlen : v.cells.size = new.length := by have := hc.1; simpa using this
            have hsize : new.length = size := Nat.eq_of_beq_eq_true hb
            have hcs : cs.size = ls.length := by have := hl.1; simpa using this
            have hcond : ¬ ((v.cells.size ≠ size || decide (off + v.cells.size > cs.size)) = true) := by
              simp; omega
            have hfold := fold_put v off cs (by omega)
            have hrel := put_rep hl hc hle
            have hlen' : v.cells.toList.length = v.cells.size := by simp
            rw [hlen'] at hrel
            rw [← hfold] at hrel
            obtain ⟨cs', e1, e2, e3⟩ := fill_run pl parts vparts _ ls' (v.cells.zipIdx.foldl (fun cs (p : Value × Nat) => cs.setIfInBounds (off + p.2) p.1) cs) hi hr hrel (by
              rw [hfold]
              intro c hc'
              rcases List.mem_append.1 hc' with hc' | hc'
              · rcases List.mem_append.1 hc' with hc' | hc'
                · exact h1 c (List.mem_of_mem_take hc')
                · exact ho c hc'
              · exact h1 c (List.mem_of_mem_drop hc')) h
            refine ⟨cs', ?_, e2, e3⟩
            simp only [Instr.fill, hp]
            rw [if_neg hcond]
            exact e1
          · cases h

include ht in
theorem build_run {T : TypeId} {parts : List (Nat × AV)} {vparts : List (Nat × Value)} {v : AV} (hi : vparts.map (·.1) = parts.map (·.1)) (hr : ReL m L (parts.map (·.2)) (vparts.map (·.2)))
    (h : buildAV tab T parts = some v) : ∃ v', ARep m L v v' ∧ (Instr.build T ⟨vparts⟩).run P w = .ok v' w := by
  unfold buildAV at h
  split at h
  · rename_i i pl hT hpl
    cases hz : i.zero.all flat with
    | false => simp only [hz, cond_false, reduceCtorEq] at h
    | true =>
      simp only [hz, cond_true, Option.map_eq_some_iff] at h
      obtain ⟨ls, hls, rfl⟩ := h
      obtain ⟨z, hzr, hzc⟩ := run_zeroValue' ht hT w
      have hzrep : ReL m L i.zero z.cells.toList := zero_rep hzc
      obtain ⟨cs', e1, e2, e3⟩ := fill_run pl parts vparts i.zero ls z.cells hi hr hzrep (flats_rep hzrep hz) hls
      refine ⟨.agg ⟨cs'.toList⟩, .st _ _ e2.1 e3 e2.2, ?_⟩
      unfold placesOf at hpl
      split at hpl
      · rename_i fs size bytes zero ty teq hT'
        cases hall : fs.all (fun (x : Nat × TypeId) => (tab.find x.2).isSome) with
        | false => rw [show fs.all (fun x => match x with | (_, T') => (tab.find T').isSome) = false from hall] at hpl; simp only [cond_false, reduceCtorEq] at hpl
        | true =>
          rw [show fs.all (fun x => match x with | (_, T') => (tab.find T').isSome) = true from hall] at hpl
          simp only [cond_true, Option.some.injEq] at hpl
          obtain ⟨fields, hu, hf⟩ := under_struct ht hT' rfl
          have hplaces : ∀ (l : List Field), (∀ f ∈ l, (tab.find f.type).isSome = true) → (l.mapM (m := Sem) fun f => do pure (f.offset, ← sizeOf f.type)).run P w = .ok (l.map fun f => (f.offset, ((tab.find f.type).map (·.size)).getD 0)) w := by
            intro l
            induction l with
            | nil => intro _; rfl
            | cons f l ih =>
              intro hl
              obtain ⟨fi, hfi⟩ := Option.isSome_iff_exists.1 (hl f (by simp))
              rw [List.mapM_cons]
              simp only [Sem.run_bind, run_sizeOf' ht hfi, Result.andThen_ok, Sem.run_pure, ih fun g hg => hl g (by simp [hg]), hfi, List.map_cons, Option.map_some, Option.getD_some]
          have hp := hplaces fields.toList (fun f hf' => by
            have : (f.offset, f.type) ∈ fs := by rw [← hf]; exact List.mem_map.2 ⟨f, hf', rfl⟩
            exact List.all_eq_true.1 hall _ this)
          have hpA : (fields.mapM (m := Sem) fun f => do pure (f.offset, ← sizeOf f.type)).run P w = .ok (fields.toList.map fun f => (f.offset, ((tab.find f.type).map (·.size)).getD 0)).toArray w := by
            rw [Array.mapM_eq_mapM_toList, Sem.run_map, hp]; rfl
          have hfun : (fun i => ((fields.toList.map fun f => (f.offset, ((tab.find f.type).map (·.size)).getD 0)).toArray)[i]?) = pl := by
            rw [← hpl]
            funext k
            simp only [List.getElem?_toArray, List.getElem?_map]
            have : fs[k]? = (fields.toList[k]?).map fun f => (f.offset, f.type) := by rw [← hf, List.getElem?_map]
            rw [this]
            cases hk : fields.toList[k]? with
            | none => rfl
            | some f =>
              have hm : f ∈ fields.toList := List.mem_of_getElem? hk
              have : (f.offset, f.type) ∈ fs := by rw [← hf]; exact List.mem_map.2 ⟨f, hm, rfl⟩
              obtain ⟨fi, hfi⟩ := Option.isSome_iff_exists.1 (List.all_eq_true.1 hall _ this)
              simp only at hfi
              simp [hfi]
          simp only [Instr.build, Sem.run_bind, hzr, Result.andThen_ok, run_under hu, hpA, hfun, e1, Sem.run_pure]
      · rename_i n e size bytes zero ty teq hT'
        simp only [Option.map_eq_some_iff] at hpl
        obtain ⟨ei, hei, rfl⟩ := hpl
        have hu := under_array ht hT' rfl
        simp only [Instr.build, Sem.run_bind, hzr, Result.andThen_ok, run_under hu, run_sizeOf' ht hei, e1, Sem.run_pure]
      · cases hpl
  · cases h
end
end Go.Proofs.Am

set_option autoImplicit false
set_option linter.unusedVariables false
set_option linter.unusedSimpArgs false
namespace Go.Proofs.Am
open Go.RowKit

/-! ## New blocks -/
def Mem.add (m : Mem) (b : Nat) (f : Nat → Option Value) : Mem := fun b' j => if b' = b then f j else m b' j
def Locs.set (L : Locs) (s j : Nat) (l : Loc) : Locs := fun s' j' => if s' = s ∧ j' = j then l else L s' j'

theorem mem_lt {m : Mem} {w : World} (h : Agree m w) {b j : Nat} (hb : w.heap.size ≤ b) : m b j = none := by
  cases hm : m b j with
  | none => rfl
  | some v => have := cell_lt (h b j v hm); omega

theorem heap_push {w : World} {o : Obj} {b : Nat} (hb : b < w.heap.size) : (w.heap.push o)[b]? = w.heap[b]? := by
  rw [Array.getElem?_push, if_neg (by omega)]

theorem cell_push {w : World} {o : Obj} {b j : Nat} {v : Value} (h : w.cell? ⟨b, j, none⟩ = some v) : ({ w with heap := w.heap.push o } : World).cell? ⟨b, j, none⟩ = some v := by
  have hb := cell_lt h
  unfold World.cell? at h ⊢
  simp only [heap_push hb]
  exact h

theorem evo_new {F : Nat → Nat → Prop} {w : World} {m : Mem} {o : Obj} (ha : Agree m w) : Evo F w m { w with heap := w.heap.push o } m where
  size := by simp
  os := rfl
  tape := rfl
  output := rfl
  le := m.le_refl
  agree b j v h := cell_push (ha b j v h)
  new b j h h' := absurd h' h
  same b hb := .inl (heap_push hb)

theorem evo_drew {F : Nat → Nat → Prop} {w : World} {m : Mem} (ha : Agree m w) (n : Nat) : Evo F w m { w with drawn := n } m where
  size := Nat.le_refl _
  os := rfl
  tape := rfl
  output := rfl
  le := m.le_refl
  agree b j v h := ha b j v h
  new b j h h' := absurd h' h
  same b hb := .inl rfl

/-- The newest block becomes stable, as far as 'n'. -/
theorem evo_settle {F : Nat → Nat → Prop} {w : World} {m : Mem} {cs : Array Value} {E : TypeId} {fr : Nat × Nat} {n : Nat} (ha : Agree m w) (hn : n ≤ cs.size) :
    Evo F w m { w with heap := w.heap.push (.cells cs E fr) } (m.add w.heap.size fun j => if j < n then cs[j]? else none) where
  size := by simp
  os := rfl
  tape := rfl
  output := rfl
  le b j v h := by
    have hb := cell_lt (ha b j v h)
    unfold Mem.add
    rw [if_neg (by omega)]
    exact h
  agree b j v h := by
    unfold Mem.add at h
    split at h
    · rename_i hb
      subst hb
      dsimp only at h
      split at h
      · simp only [World.cell?, Array.getElem?_push, if_true]
        simpa using h
      · cases h
    · exact cell_push (ha b j v h)
  new b j h h' := by
    unfold Mem.add at h
    split at h
    · rename_i hb; exact .inr (by omega)
    · exact absurd h' h
  same b hb := .inl (heap_push hb)

theorem res_nil {m : Mem} {L : Locs} {w : World} {R : Nat → List Cont} (hr : ResAt m L w R) {s : Nat} (h : R s = []) (j : Nat) : L s j = .no := hr.no s h j

@[simp] theorem setF_same {α : Type} (f : Nat → α) (i : Nat) (v : α) : setF f i v i = v := by simp [setF]
theorem setF_other {α : Type} (f : Nat → α) {i j : Nat} (v : α) (h : j ≠ i) : setF f i v j = f j := by
  unfold setF
  cases hb : Nat.beq j i with
  | true => exact absurd (Nat.eq_of_beq_eq_true hb) h
  | false => rfl

theorem Locs.set_le {L : Locs} {s j : Nat} {l : Loc} (h : L s j = .no) : L.le (L.set s j l) := by
  intro s' j' hne
  by_cases he : s' = s ∧ j' = j
  · rw [he.1, he.2] at hne; exact absurd h hne
  · exact .inl (by simp [Locs.set, he])

/-- One resource is made. -/
theorem did_single {m m' : Mem} {L : Locs} {w w' : World} {R : Nat → List Cont} {site : Nat} {c : Cont} {l : Loc} (hr : ResAt m L w R) (hs : R site = [])
    (he : Evo (fun _ _ => False) w m w' m') (hc : ContAt m' (L.set site 0 l) w' l c) (hf : ∀ b i, foot l c b i → w.heap.size ≤ b) :
    Did [site] R (setF R site [c]) w m L w' m' (L.set site 0 l) where
  evo := he.weaken fun _ _ h => h.elim
  keep := Locs.set_le (hr.no site hs 0)
  out s h := by
    have hne : s ≠ site := by simpa using h
    exact ⟨setF_other _ _ hne, fun j => by simp [Locs.set, hne]⟩
  at_ s j c' h h' := by
    have : s = site := by simpa using h
    subst this
    rw [setF_same] at h'
    match j, h' with
    | 0, h' =>
      simp at h'; subst h'
      simpa [Locs.set] using hc
  apart s j c1 s' j' c2 h h' h1 h2 hne b i hf1 hf2 := by
    have e : s = site := by simpa using h
    have e' : s' = site := by simpa using h'
    subst e; subst e'
    rw [setF_same] at h1 h2
    match j, j', h1, h2 with
    | 0, 0, _, _ => exact hne rfl
  foot s j c' h h' b i hf' := by
    have : s = site := by simpa using h
    subst this
    rw [setF_same] at h'
    match j, h' with
    | 0, h' =>
      simp at h'; subst h'
      exact .inr (hf b i (by simpa [Locs.set] using hf'))
  no s h h' := by
    have : s = site := by simpa using h
    subst this
    rw [setF_same] at h'
    cases h'

section
variable {P : Program} {tab : Tab} (ht : TabOk P tab) {m : Mem} {L : Locs} {w : World} {st : St} {a : Act} {o : Oper}

theorem single_run {site : Nat} {v : AV} {c : Cont} {fs : List (List Cont)} {v' : AV} (h : ((single site v c).act ((single site v c).rs.map st.res)).run = some (v', fs)) :
    st.res site = [] ∧ v' = v ∧ fs = [[c]] := by
  unfold single at h
  simp only [List.map_cons, List.map_nil] at h
  cases hr : st.res site with
  | nil =>
    rw [hr] at h
    simp at h
    exact ⟨rfl, h.1.symm, h.2.symm⟩
  | cons x xs => rw [hr] at h; simp at h

/-- A variable in a block of its own. -/
theorem newVar_did (hs : Sim m L st a w) {site : Nat} (hsite : st.res site = []) {T : TypeId} {ls : List AV} {cs : Array Value} (hr : ReL m L ls cs.toList) (h1 : ∀ c ∈ cs.toList, c.oneCell' = true) :
    ∃ L', ARep m L' (.ptr site 0 0) (.pointer (some ⟨w.heap.size, 0, none⟩)) ∧
      Did [site] st.res (putRes st.res [site] [[.cells ls]]) w m L { w with heap := w.heap.push (.cells cs T) } m L' := by
  refine ⟨L.set site 0 (.box w.heap.size 0), .ptr site 0 0 w.heap.size 0 (by simp [Locs.set]), ?_⟩
  refine did_single hs.res hsite (evo_new hs.agree) ?_ ?_
  · refine ⟨w.heap.size, 0, rfl, by simp, cs.toList, hr.mono m.le_refl (Locs.set_le (hs.res.no site hsite 0)), h1, fun i hi => ?_⟩
    simp only [Nat.zero_add]
    refine ⟨by simp [World.cell?], by simp [World.frozen?], mem_lt hs.agree (Nat.le_refl _)⟩
  · rintro b i ⟨rfl, _⟩
    exact Nat.le_refl _

include ht in
theorem alloc_ok (hs : Sim m L st a w) {T : TypeId} (ho : o.op = .alloc T) (tab_env : Env) : OpOk P o a w m L st (reqOf tab tab_env o st) := by
  unfold reqOf
  simp only [ho]
  split
  · rename_i i hi
    cases hz : i.zero.all flat with
    | false => simp only [cond_false]; exact failOk
    | true =>
      simp only [cond_true]
      intro v fs hrun next Q hn
      obtain ⟨hsite, rfl, rfl⟩ := single_run hrun
      obtain ⟨z, hzr, hzc⟩ := run_zeroValue' ht hi w
      have hzrep : ReL m L i.zero z.cells.toList := zero_rep hzc
      obtain ⟨L', hv, hd⟩ := newVar_did hs hsite (T := T) hzrep (flats_rep hzrep hz)
      have : (execOp a.eval o).run P w = .ok (.value (.pointer (some ⟨w.heap.size, 0, none⟩))) { w with heap := w.heap.push (.cells z.cells T) } := by
        simp [execOp, ho, Instr.alloc, hzr, newVar, newRow]
      rw [this]
      exact hn _ _ _ _ hv hd
  · exact failOk

theorem box_ok (hs : Sim m L st a w) {T : TypeId} {x : Operand} (ho : o.op = .box T x) (env : Env) : OpOk P o a w m L st (reqOf tab env o st) := by
  unfold reqOf
  simp only [ho]
  split
  · rename_i i hi
    split
    · rename_i ls hls
      cases hz : Nat.beq ls.length i.size with
      | false => simp only [cond_false]; exact failOk
      | true =>
        simp only [cond_true]
        intro v fs hrun next Q hn
        obtain ⟨hsite, rfl, rfl⟩ := single_run hrun
        obtain ⟨hc, h1⟩ := cellsOf_rep (hs.eval x) hls
        obtain ⟨L', hv, hd⟩ := newVar_did hs hsite (T := T) hc h1
        have : (execOp a.eval o).run P w = .ok (.value (.pointer (some ⟨w.heap.size, 0, none⟩))) { w with heap := w.heap.push (.cells (a.eval x).cells T) } := by
          simp [execOp, ho, Instr.box, newVar, newRow]
        rw [this]
        exact hn _ _ _ _ hv hd
    · exact failOk
  · exact failOk
end
end Go.Proofs.Am

set_option autoImplicit false
set_option linter.unusedVariables false
set_option linter.unusedSimpArgs false
namespace Go.Proofs.Am
open Go.RowKit

section
variable {P : Program} {tab : Tab} (ht : TabOk P tab) {m : Mem} {L : Locs} {w : World} {st : St} {a : Act} {o : Oper}

/-! ### What was read out of a box, and put into it -/
theorem takeLeaves_load {T : TypeId} {i : TInfo} (hi : tab.find T = some i) {ls : List AV} {cs : List Value} {b base off : Nat} {x : AV} (ht : TabOk P tab) (h : ReL m L ls cs) (h1 : ∀ c ∈ cs, c.oneCell' = true)
    (hc : ∀ i, i < cs.length → w.cell? ⟨b, base + i, none⟩ = cs[i]?) (hx : takeLeaves i ls off = some x) : ∃ v', ARep m L x v' ∧ (loadVar T ⟨b, base + off, none⟩).run P w = .ok v' w := by
  obtain ⟨c1, c2, c3, rfl, hlen, hsz, hr⟩ := takeLeaves_rep h h1 hx
  have hc2 : ∀ j, j < c2.length → w.cell? ⟨b, base + off + j, none⟩ = c2[j]? := by
    intro j hj
    have := hc (off + j) (by simp; omega)
    rw [Nat.add_assoc, this, List.append_assoc, List.getElem?_append_right (by omega), List.getElem?_append_left (by omega)]
    congr 1; omega
  rcases loadVar_list ht hi hsz hc2 with hl | ⟨ha, hs⟩
  · rcases hr with ⟨ha, hr⟩ | ⟨ha, c, rfl, hr⟩
    · rw [ha, if_pos rfl] at hl
      exact ⟨_, hr, hl⟩
    · rw [ha, if_neg (by simp)] at hl
      exact ⟨_, hr, by simpa using hl⟩
  · rcases hr with ⟨ha', _⟩ | ⟨_, c, rfl, _⟩
    · rw [ha] at ha'; cases ha'
    · exact absurd hsz.symm hs

theorem ptr_box {s j off : Nat} {v : Value} (h : ARep m L (.ptr s j off) v) : ∃ b o, L s j = .box b o ∧ v = .pointer (some ⟨b, o + off, none⟩) := by
  cases h with
  | ptr _ _ _ b o h => exact ⟨b, o, h, rfl⟩

theorem read_did {s : Nat} (hs : Sim m L st a w) : Did [s] st.res (putRes st.res [s] [st.res s]) w m L w m L where
  evo := .refl hs.agree
  keep := L.le_refl
  out s' h := ⟨setF_other _ _ (by simpa using h), fun _ => rfl⟩
  at_ s' j c h h' := by
    have : s' = s := by simpa using h
    subst this
    simp only [putRes, setF_same] at h'
    exact hs.res.at_ _ _ _ h'
  apart s1 j c s2 j' c' h h' h1 h2 hne b i hf1 hf2 := by
    have e : s1 = s := by simpa using h
    have e' : s2 = s := by simpa using h'
    subst e; subst e'
    simp only [putRes, setF_same] at h1 h2
    exact hs.res.apart _ _ _ _ _ _ h1 h2 hne b i hf1 hf2
  foot s' j c h h' b i hf := by
    have : s' = s := by simpa using h
    subst this
    simp only [putRes, setF_same] at h'
    exact .inl ⟨s', j, c, by simp, h', hf⟩
  no s' h h' := by
    have : s' = s := by simpa using h
    subst this
    simp only [putRes, setF_same] at h'
    exact hs.res.no _ h'

theorem load_pel_run {T : TypeId} {i : TInfo} (hi : tab.find T = some i) (ht : TabOk P tab) {t : Ty} {x : t.den} {v : Value} (ha : Agree m w) (h : ARep m L (.pel t x) v) (hf : fits i t = true) :
    ∃ v', ARep m L (.d t x) v' ∧ (Instr.loadAt T v).run P w = .ok v' w := by
  cases h with
  | pel _ _ b off cs hm hr =>
    have hl := hr.length
    obtain ⟨hsz, hag⟩ := fits_size hf
    have hc : ∀ j, j < cs.length → w.cell? ⟨b, off + j, none⟩ = cs[j]? := by
      intro j hj
      rw [List.getElem?_eq_getElem hj]
      refine ha _ _ _ ?_
      rw [hm j (by omega), List.getElem?_eq_getElem hj]
    rcases loadVar_list ht hi (hl.trans hsz.symm) hc with hl' | ⟨hga, hs⟩
    · cases hga : i.agg with
      | true =>
        rw [hga, if_pos rfl] at hl'
        exact ⟨_, .d2 _ _ _ (hag ▸ hga) hr, by simpa [Instr.loadAt, Instr.sureAddr] using hl'⟩
      | false =>
        have hta : t.agg = false := hag ▸ hga
        have h1 : t.size = 1 := by cases t <;> simp [Ty.agg] at hta <;> rfl
        match cs, hl.trans h1, hr, hl' with
        | [c], _, hr, hl' =>
          rw [hga, if_neg (by simp)] at hl'
          exact ⟨c, .d1 _ _ _ hta hr, by simpa [Instr.loadAt, Instr.sureAddr] using hl'⟩
    · have hta : t.agg = false := hag ▸ hga
      have h1 : t.size = 1 := by cases t <;> simp [Ty.agg] at hta <;> rfl
      exact absurd (hsz.trans h1) hs

theorem put_cells {cs ncs : List Value} {off : Nat} (h : off + ncs.length ≤ cs.length) (i : Nat) :
    (cs.take off ++ ncs ++ cs.drop (off + ncs.length))[i]? = if off ≤ i ∧ i < off + ncs.length then ncs[i - off]? else cs[i]? := by
  by_cases h1 : i < off
  · rw [if_neg (by omega), List.append_assoc, List.getElem?_append_left (by simp; omega), List.getElem?_take_of_lt h1]
  · by_cases h2 : i < off + ncs.length
    · rw [if_pos ⟨by omega, h2⟩, List.append_assoc, List.getElem?_append_right (by simp; omega), List.getElem?_append_left (by simp; omega)]
      congr 1; simp; omega
    · rw [if_neg (by omega), List.getElem?_append_right (by simp; omega), List.getElem?_drop]
      congr 1; simp; omega

theorem setCells_heap (b : Nat) : ∀ (vs : List Value) (o : Nat) (w : World) (b' : Nat), b' ≠ b → (w.setCells b o vs).heap[b']? = w.heap[b']?
  | [], _, _, _, _ => rfl
  | v :: r, o, w, b', h => by
    rw [World.setCells, setCells_heap b r (o + 1) _ b' h]
    simp only [World.setCell]
    rw [Array.getElem?_modify, if_neg (Ne.symm h)]

theorem setCells_block (b : Nat) : ∀ (vs : List Value) (o : Nat) (w : World) (cs : Array Value) (E : TypeId) (fr : Nat × Nat), w.heap[b]? = some (.cells cs E fr) →
    ∃ cs', (w.setCells b o vs).heap[b]? = some (.cells cs' E fr) ∧ cs'.size = cs.size ∧ ∀ j, (j < o ∨ o + vs.length ≤ j) → cs'[j]? = cs[j]?
  | [], o, w, cs, E, fr, h => ⟨cs, h, rfl, fun _ _ => rfl⟩
  | v :: r, o, w, cs, E, fr, h => by
    have h' : (w.setCell ⟨b, o, none⟩ v).heap[b]? = some (.cells (cs.setIfInBounds o v) E fr) := by
      simp only [World.setCell]
      rw [Array.getElem?_modify, if_pos rfl, h]
      rfl
    obtain ⟨cs', e1, e2, e3⟩ := setCells_block b r (o + 1) (w.setCell ⟨b, o, none⟩ v) _ E fr h'
    refine ⟨cs', e1, by simpa using e2, fun j hj => ?_⟩
    simp only [List.length_cons] at hj
    rw [e3 j (by omega), Array.getElem?_setIfInBounds_ne (by omega)]

theorem setCells_os (b : Nat) : ∀ (vs : List Value) (o : Nat) (w : World), (w.setCells b o vs).os = w.os ∧ (w.setCells b o vs).tape = w.tape ∧ (w.setCells b o vs).output = w.output ∧ (w.setCells b o vs).heap.size = w.heap.size
  | [], _, _ => ⟨rfl, rfl, rfl, rfl⟩
  | v :: r, o, w => by
    obtain ⟨h1, h2, h3, h4⟩ := setCells_os b r (o + 1) (w.setCell ⟨b, o, none⟩ v)
    rw [World.setCells]
    exact ⟨h1, h2, h3, by rw [h4]; simp⟩

/-- Cells written in a row, none of them stable. -/
theorem evo_setCells {F : Nat → Nat → Prop} {vs : List Value} {b o : Nat} (ha : Agree m w) (hb : b < w.heap.size) (hcells : ∀ j, j < vs.length → (w.cell? ⟨b, o + j, none⟩).isSome = true) (hm : ∀ j, j < vs.length → m b (o + j) = none)
    (hF : ∀ j, j < vs.length → F b (o + j)) (hblk : ∃ cs E fr, w.heap[b]? = some (.cells cs E fr)) : Evo F w m (w.setCells b o vs) m where
  size := by rw [(setCells_os b vs o w).2.2.2]; exact Nat.le_refl _
  os := (setCells_os b vs o w).1
  tape := (setCells_os b vs o w).2.1
  output := (setCells_os b vs o w).2.2.1
  le := m.le_refl
  agree b' j v h := by
    rw [World.cell?_setCells_out]
    · exact ha b' j v h
    · intro h1 _
      simp only at h1 ⊢
      subst h1
      rcases Nat.lt_or_ge j o with h2 | h2
      · exact .inl h2
      · refine .inr ?_
        rcases Nat.lt_or_ge j (o + vs.length) with h3 | h3
        · have := hm (j - o) (by omega)
          rw [show o + (j - o) = j by omega, h] at this
          cases this
        · exact h3
  new b j h h' := absurd h' h
  same b' hb' := by
    by_cases he : b' = b
    · subst he
      obtain ⟨cs, E, fr, hh⟩ := hblk
      obtain ⟨cs', e1, e2, e3⟩ := setCells_block b' vs o w cs E fr hh
      refine .inr (.inl ⟨cs, cs', E, fr, hh, e1, e2, fun j hj => e3 j ?_⟩)
      rcases Nat.lt_or_ge j o with h2 | h2
      · exact .inl h2
      · refine .inr ?_
        rcases Nat.lt_or_ge j (o + vs.length) with h3 | h3
        · have := hF (j - o) (by omega)
          rw [show o + (j - o) = j by omega] at this
          exact absurd this hj
        · exact h3
    · exact .inl (setCells_heap b vs o w b' he)

theorem cell_block {b j : Nat} {v : Value} (h : w.cell? ⟨b, j, none⟩ = some v) : ∃ cs E fr, w.heap[b]? = some (.cells cs E fr) := by
  unfold World.cell? at h
  split at h
  · rename_i c e f hh
    exact ⟨c, e, f, hh⟩
  · cases h

/-- One resource is turned in place. -/
theorem did_set {m' : Mem} {w' : World} {R : Nat → List Cont} {s j : Nat} {c c' : Cont} (ha : Agree m w) (hr : ResAt m L w R) (hj : (R s)[j]? = some c) (he : Evo (foot (L s j) c) w m w' m')
    (hc : ContAt m' L w' (L s j) c') (hf : ∀ b i, foot (L s j) c' b i → foot (L s j) c b i) : Did [s] R (setF R s ((R s).set j c')) w m L w' m' L := by
  have hjlt : j < (R s).length := by
    rcases Nat.lt_or_ge j (R s).length with h | h
    · exact h
    · rw [List.getElem?_eq_none h] at hj; cases hj
  have hget : ∀ j' c0, ((R s).set j c')[j']? = some c0 → (j' = j ∧ c0 = c') ∨ (j' ≠ j ∧ (R s)[j']? = some c0) := by
    intro j' c0 h
    by_cases he : j' = j
    · subst he
      rw [List.getElem?_set_self hjlt] at h
      exact .inl ⟨rfl, (Option.some.inj h).symm⟩
    · rw [List.getElem?_set_ne (Ne.symm he)] at h
      exact .inr ⟨he, h⟩
  refine ⟨he.weaken fun b i h => ⟨s, j, c, by simp, hj, h⟩, L.le_refl, fun s' h => ⟨setF_other _ _ (by simpa using h), fun _ => rfl⟩, ?_, ?_, ?_, ?_⟩
  · intro s' j' c0 h h'
    have : s' = s := by simpa using h
    subst this
    rw [setF_same] at h'
    rcases hget j' c0 h' with ⟨rfl, rfl⟩ | ⟨hne, h2⟩
    · exact hc
    · exact (hr.at_ _ _ _ h2).kept ha L.le_refl he fun b i h1 h3 => hr.apart _ _ _ _ _ _ h2 hj (fun e => hne (by cases e; rfl)) b i h1 h3
  · intro s1 j1 c1 s2 j2 c2 h h' h1 h2 hne b i hf1 hf2
    have e : s1 = s := by simpa using h
    have e' : s2 = s := by simpa using h'
    subst e; subst e'
    rw [setF_same] at h1 h2
    rcases hget _ _ h1 with ⟨e1, e2⟩ | ⟨hn1, g1⟩ <;> rcases hget _ _ h2 with ⟨e3, e4⟩ | ⟨hn2, g2⟩
    · exact hne (by rw [e1, e3])
    · subst e1; subst e2; exact hr.apart _ _ _ _ _ _ hj g2 hne b i (hf _ _ hf1) hf2
    · subst e3; subst e4; exact hr.apart _ _ _ _ _ _ g1 hj hne b i hf1 (hf _ _ hf2)
    · exact hr.apart _ _ _ _ _ _ g1 g2 hne b i hf1 hf2
  · intro s1 j1 c1 h h1 b i hf1
    have e : s1 = s := by simpa using h
    subst e
    rw [setF_same] at h1
    rcases hget _ _ h1 with ⟨rfl, rfl⟩ | ⟨hn1, h1⟩
    · exact .inl ⟨s1, j1, c, by simp, hj, hf _ _ hf1⟩
    · exact .inl ⟨s1, j1, c1, by simp, h1, hf1⟩
  · intro s1 h h1
    have e : s1 = s := by simpa using h
    subst e
    rw [setF_same] at h1
    have : ((R s1).set j c').length = 0 := by rw [h1]; rfl
    simp at this
    rw [this] at hjlt
    simp at hjlt

/-- One resource is turned, and may lie elsewhere. -/
theorem did_move {m' : Mem} {w' : World} {R : Nat → List Cont} {s j : Nat} {c c' : Cont} {l' : Loc} (ha : Agree m w) (hr : ResAt m L w R) (hj : (R s)[j]? = some c) (he : Evo (foot (L s j) c) w m w' m') (hle : L.le (L.set s j l'))
    (hc : ContAt m' (L.set s j l') w' l' c') (hf : ∀ b i, foot l' c' b i → foot (L s j) c b i ∨ w.heap.size ≤ b) : Did [s] R (setF R s ((R s).set j c')) w m L w' m' (L.set s j l') := by
  have hjlt : j < (R s).length := by
    rcases Nat.lt_or_ge j (R s).length with h | h
    · exact h
    · rw [List.getElem?_eq_none h] at hj; cases hj
  have hget : ∀ j' c0, ((R s).set j c')[j']? = some c0 → (j' = j ∧ c0 = c') ∨ (j' ≠ j ∧ (R s)[j']? = some c0) := by
    intro j' c0 h
    by_cases he : j' = j
    · subst he
      rw [List.getElem?_set_self hjlt] at h
      exact .inl ⟨rfl, (Option.some.inj h).symm⟩
    · rw [List.getElem?_set_ne (Ne.symm he)] at h
      exact .inr ⟨he, h⟩
  have hLs : L.set s j l' s j = l' := by simp [Locs.set]
  have hLo : ∀ j', j' ≠ j → L.set s j l' s j' = L s j' := fun j' h => by simp [Locs.set, h]
  refine ⟨he.weaken fun b i h => ⟨s, j, c, by simp, hj, h⟩, hle, fun s' h => ⟨setF_other _ _ (by simpa using h), fun j' => by have : s' ≠ s := (by simpa using h); simp [Locs.set, this]⟩, ?_, ?_, ?_, ?_⟩
  · intro s' j' c0 h h'
    have : s' = s := by simpa using h
    subst this
    rw [setF_same] at h'
    rcases hget j' c0 h' with ⟨rfl, rfl⟩ | ⟨hne, h2⟩
    · rw [hLs]; exact hc
    · rw [hLo _ hne]
      exact (hr.at_ _ _ _ h2).kept ha hle he fun b i h1 h3 => hr.apart _ _ _ _ _ _ h2 hj (fun e => hne (by cases e; rfl)) b i h1 h3
  · intro s1 j1 c1 s2 j2 c2 h h' h1 h2 hne b i hf1 hf2
    have e : s1 = s := by simpa using h
    have e' : s2 = s := by simpa using h'
    subst e; subst e'
    rw [setF_same] at h1 h2
    rcases hget _ _ h1 with ⟨e1, e2⟩ | ⟨hn1, g1⟩ <;> rcases hget _ _ h2 with ⟨e3, e4⟩ | ⟨hn2, g2⟩
    · exact hne (by rw [e1, e3])
    · subst e1; subst e2
      rw [hLs] at hf1
      rw [hLo _ hn2] at hf2
      rcases hf _ _ hf1 with h3 | h3
      · exact hr.apart _ _ _ _ _ _ hj g2 hne b i h3 hf2
      · have := (hr.at_ _ _ _ g2).foot_lt hf2; omega
    · subst e3; subst e4
      rw [hLs] at hf2
      rw [hLo _ hn1] at hf1
      rcases hf _ _ hf2 with h3 | h3
      · exact hr.apart _ _ _ _ _ _ g1 hj hne b i hf1 h3
      · have := (hr.at_ _ _ _ g1).foot_lt hf1; omega
    · rw [hLo _ hn1] at hf1
      rw [hLo _ hn2] at hf2
      exact hr.apart _ _ _ _ _ _ g1 g2 hne b i hf1 hf2
  · intro s1 j1 c1 h h1 b i hf1
    have e : s1 = s := by simpa using h
    subst e
    rw [setF_same] at h1
    rcases hget _ _ h1 with ⟨rfl, rfl⟩ | ⟨hn1, h1⟩
    · rw [hLs] at hf1
      rcases hf _ _ hf1 with h3 | h3
      · exact .inl ⟨s1, j1, c, by simp, hj, h3⟩
      · exact .inr h3
    · rw [hLo _ hn1] at hf1
      exact .inl ⟨s1, j1, c1, by simp, h1, hf1⟩
  · intro s1 h h1
    have e : s1 = s := by simpa using h
    subst e
    rw [setF_same] at h1
    have : ((R s1).set j c').length = 0 := by rw [h1]; rfl
    simp at this
    rw [this] at hjlt
    simp at hjlt

/-! ### Lists that may be written to -/
theorem arr_cells {l : Loc} {k : Nat} {t : Ty} {xs : List t.den} (h : ContAt m L w l (.arr k t xs)) : ∃ b o lim, l = .arr k b o xs.length t.size lim ∧ t.size ≠ 0 ∧ xs.length ≤ maxStr ∧ o + xs.length * t.size ≤ lim ∧ (o < lim → b < w.heap.size) ∧ (o < lim → ∃ cs E fr, w.heap[b]? = some (.cells cs E fr) ∧ lim ≤ cs.size) ∧
    (∀ j, o ≤ j → j < lim → (w.cell? ⟨b, j, none⟩).isSome = true ∧ w.frozen? ⟨b, j, none⟩ = false ∧ m b j = none) ∧
    ∀ (i : Nat) (hi : i < xs.length), ∃ cs, RepC m t cs xs[i] ∧ ∀ q, q < t.size → w.cell? ⟨b, o + i * t.size + q, none⟩ = cs[q]? := by
  obtain ⟨b, o, lim, rfl, hz, hmax, hl, ⟨rfl, rfl⟩ | ⟨cs, E, fr, hh, hlim, hm, hr⟩⟩ := h
  · exact ⟨b, _, _, rfl, hz, hmax, hl, fun h => by omega, fun h => by omega, fun j h1 h2 => by omega, fun i hi => by simp at hi⟩
  refine ⟨b, o, lim, rfl, hz, hmax, hl, fun _ => (Array.getElem?_eq_some_iff.1 hh).1, fun _ => ⟨cs, E, fr, hh, hlim⟩, fun j h1 h2 => ⟨?_, ?_, (hm j h1 h2).1⟩, fun i hi => ⟨_, hr i hi, fun q hq => ?_⟩⟩
  · simp only [World.cell?, hh]
    simp; omega
  · have := (hm j h1 h2).2
    simp only [World.frozen?, hh]
    simp; omega
  · rw [List.getElem?_take_of_lt hq, List.getElem?_drop, Array.getElem?_toList]
    simp [World.cell?, hh]

theorem arr_mk {m' : Mem} {L' : Locs} {w' : World} {k b o lim n sz : Nat} {t : Ty} {xs : List t.den} {cs : Array Value} {E : TypeId} {fr : Nat × Nat} (hn : n = xs.length) (hsz : sz = t.size) (hz : t.size ≠ 0) (hmax : xs.length ≤ maxStr) (hl : o + xs.length * t.size ≤ lim) (hh : w'.heap[b]? = some (.cells cs E fr)) (hlim : lim ≤ cs.size)
    (hm : ∀ j, o ≤ j → j < lim → w'.frozen? ⟨b, j, none⟩ = false ∧ m' b j = none)
    (hr : ∀ (i : Nat) (hi : i < xs.length), ∃ c, RepC m' t c xs[i] ∧ ∀ q, q < t.size → w'.cell? ⟨b, o + i * t.size + q, none⟩ = c[q]?) : ContAt m' L' w' (.arr k b o n sz lim) (.arr k t xs) := by
  subst hn; subst hsz
  refine ⟨b, o, lim, rfl, hz, hmax, hl, .inr ⟨cs, E, fr, hh, hlim, fun j h1 h2 => ⟨(hm j h1 h2).2, ?_⟩, fun i hi => ?_⟩⟩
  · have := (hm j h1 h2).1
    simp only [World.frozen?, hh] at this
    intro hc
    simp at this
    omega
  · obtain ⟨c, h1, h2⟩ := hr i hi
    have : (cs.toList.drop (o + i * t.size)).take t.size = c := by
      refine List.ext_getElem? fun q => ?_
      by_cases hq : q < t.size
      · rw [List.getElem?_take_of_lt hq, List.getElem?_drop, Array.getElem?_toList, ← h2 q hq]
        simp [World.cell?, hh]
      · rw [List.getElem?_eq_none (by simp; omega), List.getElem?_eq_none (by rw [h1.length]; omega)]
    rw [this]; exact h1

/-- .. looked at as data, where its cells are held to be stable. -/
theorem arr_list {l : Loc} {k : Nat} {t : Ty} {xs : List t.den} (h : ContAt m L w l (.arr k t xs)) {b o n sz lim : Nat} (hl : l = .arr k b o n sz lim) {mp : Mem} (hle : m.le mp) (hmp : ∀ j, o ≤ j → j < lim → mp b j = w.cell? ⟨b, j, none⟩) {c : Nat} (hc : n ≤ c) {A : Option Addr} (hA : A = some ⟨b, o, none⟩ ∨ (A = none ∧ n = 0 ∧ c = 0)) :
    RepC mp (.list t) [.slice A n c] xs := by
  obtain ⟨b', o', lim', hl', hz, hmax, hlen, h⟩ := h
  rw [hl] at hl'
  cases hl'
  by_cases hx0 : xs = []
  · subst hx0
    exact .nil t A c
  rcases h with ⟨h, _⟩ | ⟨cs, E, fr, hh, hlim, hm, hr⟩
  · exact absurd h hx0
  rcases hA.symm with ⟨_, h0, _⟩ | rfl
  · exact absurd (List.eq_nil_of_length_eq_zero h0) hx0
  refine .list t b o _ c xs (fun i => (cs.toList.drop (o + i * t.size)).take t.size) rfl hmax hc (fun i hi => ?_) (fun i hi => (hr i hi).mono hle)
  have hii := (hr i hi).length
  refine ⟨hii, fun j hj => ?_⟩
  have hi1 : (i + 1) * t.size ≤ xs.length * t.size := Nat.mul_le_mul_right _ (by omega)
  rw [Nat.add_mul] at hi1
  rw [hmp _ (by omega) (by omega), List.getElem?_take_of_lt hj, List.getElem?_drop, Array.getElem?_toList]
  simp [World.cell?, hh]

theorem atArr_run {s j k : Nat} {act : (t : Ty) → List t.den → Tree AV} {v : AV} {fs : List (List Cont)} (h : ((atArr s j k act).act ((atArr s j k act).rs.map st.res)).run = some (v, fs)) :
    ∃ t xs, (st.res s)[j]? = some (.arr k t xs) ∧ (act t xs).run = some v ∧ fs = [st.res s] := by
  simp only [atArr, List.map_cons, List.map_nil] at h
  split at h
  · rename_i k' t xs hj
    cases hk : Nat.beq k k' with
    | false => simp [hk] at h
    | true =>
      have := Nat.eq_of_beq_eq_true hk
      subst this
      simp only [hk, cond_true, Tree.run_bind, Option.bind_eq_some_iff, Tree.run_leaf, Option.some.injEq, Prod.mk.injEq] at h
      obtain ⟨v', h1, rfl, rfl⟩ := h
      exact ⟨t, xs, hj, h1, rfl⟩
  · simp at h

/-- One operation that looks at a list that may be written to. -/
theorem atArr_ok (hs : Sim m L st a w) {s j k : Nat} {act : (t : Ty) → List t.den → Tree AV}
    (h : ∀ t xs v, (st.res s)[j]? = some (.arr k t xs) → ContAt m L w (L s j) (.arr k t xs) → (act t xs).run = some v → ∃ v', ARep m L v v' ∧ (execOp a.eval o).run P w = .ok (.value v') w) : OpOk P o a w m L st (atArr s j k act) := by
  intro v fs hrun next Q hn
  obtain ⟨t, xs, hj, h1, rfl⟩ := atArr_run hrun
  obtain ⟨v', h2, h3⟩ := h t xs v hj (hs.res.at_ s j _ hj) h1
  rw [h3]
  exact hn v' w m L h2 (read_did hs)

theorem ms_at {s j k : Nat} {v : Value} (h : ARep m L (.ms s j k) v) {b o n sz lim : Nat} (hl : L s j = .arr k b o n sz lim) : ∃ A c, v = .slice A n c ∧ n ≤ c ∧ o + c * sz ≤ lim ∧ (A = some ⟨b, o, none⟩ ∨ (A = none ∧ n = 0 ∧ c = 0)) := by
  cases h with
  | ms _ _ _ _ hn ho hh => exact (hh _ _ _ _ _ _ hl).2 rfl
theorem pidx_at {s j k i off : Nat} {v : Value} (h : ARep m L (.pidx s j k i off) v) {b o n sz lim : Nat} (hl : L s j = .arr k b o n sz lim) : v = .pointer (some ⟨b, o + i * sz + off, none⟩) := by
  cases h with
  | pidx _ _ _ _ _ _ hn ho hh => exact (hh _ _ _ _ _ _ hl).2 rfl

include ht in
theorem loadArr_ok (hs : Sim m L st a w) {T : TypeId} {i : TInfo} (hi : tab.find T = some i) {s j k n off : Nat} {p : Value} (hp : ARep m L (.pidx s j k n off) p)
    (hexec : ∀ v', (Instr.loadAt T p).run P w = .ok v' w → (execOp a.eval o).run P w = .ok (.value v') w) : OpOk P o a w m L st (loadArr i s j k n off) := by
  refine atArr_ok hs fun t xs v hj hc hv => ?_
  obtain ⟨b, o0, lim, hl, hz, hmax, hle, hb, _, hfree, hcell⟩ := arr_cells hc
  have hpv := pidx_at hp hl
  simp only [Tree.run_opt, Option.bind_eq_some_iff, Tree.run_ofOption] at hv
  obtain ⟨x, hx, hv⟩ := hv
  have hn : n < xs.length := by
    rcases Nat.lt_or_ge n xs.length with h | h
    · exact h
    · rw [List.getElem?_eq_none h] at hx; cases hx
  rw [List.getElem?_eq_getElem hn] at hx
  cases hx
  obtain ⟨cs, hr, hcs⟩ := hcell n hn
  have hcl := hr.length
  have hcs' : ∀ q, q < cs.length → w.cell? ⟨b, o0 + n * t.size + q, none⟩ = cs[q]? := fun q hq => hcs q (by omega)
  unfold partOf at hv
  cases hb0 : (Nat.beq off 0 && fits i t) with
  | false =>
    simp only [hb0, cond_false] at hv
    obtain ⟨v', e1, e2⟩ := takeLeaves_load (P := P) (L := L) hi ht (leaves_rep hr) hr.oneCell hcs' hv
    exact ⟨v', e1, hexec v' (by rw [hpv]; simpa [Instr.loadAt, Instr.sureAddr] using e2)⟩
  | true =>
    simp only [hb0, cond_true, Option.some.injEq] at hv
    subst hv
    simp only [Bool.and_eq_true] at hb0
    have h0 := Nat.eq_of_beq_eq_true hb0.1
    subst h0
    obtain ⟨hsz, hag⟩ := fits_size hb0.2
    rw [Nat.add_zero] at hpv
    rcases loadVar_list ht hi (hcl.trans hsz.symm) hcs' with hl' | ⟨hga, hs'⟩
    · cases hga : i.agg with
      | true =>
        rw [hga, if_pos rfl] at hl'
        exact ⟨_, .d2 _ _ _ (hag ▸ hga) hr, hexec _ (by rw [hpv]; simpa [Instr.loadAt, Instr.sureAddr] using hl')⟩
      | false =>
        have hta : t.agg = false := hag ▸ hga
        have h1 : t.size = 1 := by cases t <;> simp [Ty.agg] at hta <;> rfl
        match cs, hcl.trans h1, hr, hl' with
        | [c], _, hr, hl' =>
          rw [hga, if_neg (by simp)] at hl'
          exact ⟨_, .d1 _ _ _ hta hr, hexec _ (by rw [hpv]; simpa [Instr.loadAt, Instr.sureAddr] using hl')⟩
    · have hta : t.agg = false := hag ▸ hga
      have h1 : t.size = 1 := by cases t <;> simp [Ty.agg] at hta <;> rfl
      exact absurd (hsz.trans h1) hs'

include ht in
theorem storeArr_ok (hs : Sim m L st a w) {T : TypeId} {i : TInfo} (hi : tab.find T = some i) {s j k n off : Nat} {p v : Value} {x : AV} (hp : ARep m L (.pidx s j k n off) p) (hx : ARep m L x v)
    (hexec : ∀ w', (Instr.storeAt T p v).run P w = .ok () w' → (execOp a.eval o).run P w = .ok .skip w') : OpOk P o a w m L st (storeArr i s j k n off x) := by
  unfold storeArr
  split
  · rename_i new hnew
    intro y fs hrun next Q hn
    simp only [onArr, List.map_cons, List.map_nil] at hrun
    split at hrun
    · rename_i k' t xs hj
      cases hk : Nat.beq k k' with
      | false => simp [hk] at hrun
      | true =>
        have hkk := Nat.eq_of_beq_eq_true hk
        subst hkk
        simp only [hk, cond_true, Tree.run_bind, Option.bind_eq_some_iff, Tree.run_opt] at hrun
        obtain ⟨⟨y0, c0⟩, ⟨z, hz, hrun⟩, hrun2⟩ := hrun
        simp only [Tree.run_leaf, Option.some.injEq, Prod.mk.injEq] at hrun2
        obtain ⟨rfl, rfl⟩ := hrun2
        cases hsz : Nat.beq new.length i.size with
        | false => simp [hsz] at hrun
        | true =>
          simp only [hsz, cond_true] at hrun
          split at hrun
          · rename_i z' hput
            simp only [Tree.run_leaf, Option.some.injEq, Prod.mk.injEq] at hrun
            obtain ⟨rfl, rfl⟩ := hrun
            obtain ⟨b, o0, lim, hl, hz0, hmax, hle, hb', hcs0, hfree, hcell⟩ := arr_cells (hs.res.at_ s j _ hj)
            have hpv := pidx_at hp hl
            have hnx : n < xs.length := by
              rcases Nat.lt_or_ge n xs.length with h | h
              · exact h
              · rw [List.getElem?_eq_none h] at hz; cases hz
            rw [List.getElem?_eq_getElem hnx] at hz
            cases hz
            have hpos : o0 < lim := by
              have := Nat.mul_le_mul_right t.size (show 1 ≤ xs.length by omega)
              have := Nat.pos_of_ne_zero hz0
              omega
            have hb := hb' hpos
            obtain ⟨cs0, E, fr, hh, hlim⟩ := hcs0 hpos
            obtain ⟨cs, hr, hcs⟩ := hcell n hnx
            have hcl := hr.length
            unfold putPart at hput
            split at hput
            · rename_i ls' hpl
              obtain ⟨hle2, rfl⟩ := putLeaves_some hpl
              have hlv := leaves_rep (L := L) hr
              obtain ⟨hcells, hone⟩ := cellsOf_rep hx hnew
              have hncs : v.cells.toList.length = new.length := hcells.1
              have hlen := hlv.1
              split at hput
              · rename_i y' hpack
                simp only [Option.some.injEq] at hput
                subst hput
                obtain ⟨c1, c2, e, r1, r2⟩ := pack_rep t (put_rep hlv hcells (by omega)) hpack
                have hc2 : c2 = [] := List.eq_nil_of_length_eq_zero r2.1
                subst hc2
                rw [List.append_nil] at e
                subst e
                have hn1 : (n + 1) * t.size ≤ xs.length * t.size := Nat.mul_le_mul_right _ (by omega)
                rw [Nat.add_mul] at hn1
                have hin : ∀ q, q < v.cells.toList.length → o0 ≤ o0 + n * t.size + off + q ∧ o0 + n * t.size + off + q < lim := fun q hq => ⟨by omega, by omega⟩
                have hrunst : (Instr.storeAt T p v).run P w = .ok () (w.setCells b (o0 + n * t.size + off) v.cells.toList) := by
                  have hcs' : v.cells.size = i.size := by
                    have h1 : new.length = i.size := Nat.eq_of_beq_eq_true hsz
                    have h2 : v.cells.toList.length = v.cells.size := by simp
                    omega
                  have := run_storeCells_cells (P := P) b (o0 + n * t.size + off) v.cells.toList 0 w (fun q hq => by
                      rw [Nat.add_zero]; exact (hfree _ (hin q hq).1 (hin q hq).2).1)
                    (fun q hq => by rw [Nat.add_zero]; exact (hfree _ (hin q hq).1 (hin q hq).2).2.1) hone
                  rw [hpv]
                  simp only [Instr.storeAt, Instr.sureAddr, Sem.run_bind, Sem.run_pure, Result.andThen_ok, storeVar, run_sizeOf' ht hi, hcs', ne_eq, not_true_eq_false, if_false, Sem.run_ite]
                  rw [Nat.add_zero] at this
                  exact this
                rw [hexec _ hrunst]
                have hfoot : ∀ q, q < v.cells.toList.length → foot (L s j) (.arr k t xs) b (o0 + n * t.size + off + q) := fun q hq => by rw [hl]; exact ⟨rfl, (hin q hq).1, (hin q hq).2⟩
                have hevo : Evo (foot (L s j) (.arr k t xs)) w m (w.setCells b (o0 + n * t.size + off) v.cells.toList) m :=
                  evo_setCells hs.agree hb (fun q hq => (hfree _ (hin q hq).1 (hin q hq).2).1) (fun q hq => (hfree _ (hin q hq).1 (hin q hq).2).2.2) hfoot ⟨cs0, E, fr, hh⟩
                obtain ⟨cs1, g1, g2, g3⟩ := setCells_block b v.cells.toList (o0 + n * t.size + off) w cs0 E fr hh
                refine hn Go.undef _ m L .undef (did_set hs.agree hs.res hj hevo ?_ ?_)
                · rw [hl]
                  refine arr_mk (by simp) rfl hz0 (by simpa using hmax) (by simpa using hle) g1 (by omega) (fun q h1 h2 => ⟨by rw [World.frozen?_setCells]; exact (hfree q h1 h2).2.1, (hfree q h1 h2).2.2⟩) (fun q hq => ?_)
                  have hq' : q < xs.length := by simpa using hq
                  by_cases hqn : n = q
                  · subst hqn
                    refine ⟨_, by rw [List.getElem_set_self]; exact r1, fun u hu => ?_⟩
                    have hfit : off + v.cells.toList.length ≤ cs.length := by omega
                    rw [put_cells hfit]
                    by_cases hui : off ≤ u ∧ u < off + v.cells.toList.length
                    · rw [if_pos hui]
                      have := World.cell?_setCells_in b v.cells.toList (o0 + n * t.size + off) w (fun q hq => (hfree _ (hin q hq).1 (hin q hq).2).1) (u - off) (by omega)
                      rw [show o0 + n * t.size + off + (u - off) = o0 + n * t.size + u by omega] at this
                      rw [this, List.getElem?_eq_getElem (by omega)]
                    · rw [if_neg hui, World.cell?_setCells_out]
                      · exact hcs u hu
                      · intro _ _; simp only; omega
                  · obtain ⟨c, d1, d2⟩ := hcell q hq'
                    refine ⟨c, by rw [List.getElem_set_ne hqn]; exact d1, fun u hu => ?_⟩
                    rw [World.cell?_setCells_out]
                    · exact d2 u hu
                    · intro _ _
                      simp only
                      rcases Nat.lt_or_gt_of_ne hqn with h | h
                      · have := Nat.mul_le_mul_right t.size (show n + 1 ≤ q by omega)
                        rw [Nat.add_mul] at this
                        omega
                      · have := Nat.mul_le_mul_right t.size (show q + 1 ≤ n by omega)
                        rw [Nat.add_mul] at this
                        omega
                · intro b' i' h
                  rw [hl] at h ⊢
                  exact h
              · cases hput
            · cases hput
          · simp at hrun
    · simp at hrun
  · exact failOk

include ht in
theorem load_ok (hs : Sim m L st a w) {T : TypeId} {x : Operand} (ho : o.op = .load T x) (env : Env) : OpOk P o a w m L st (reqOf tab env o st) := by
  have hx := hs.eval x
  have hreq : reqOf tab env o st = loadReq tab T (evalO st x) := by unfold reqOf; simp only [ho]
  rw [hreq]
  have hexec : ∀ v', (Instr.loadAt T (a.eval x)).run P w = .ok v' w → (execOp a.eval o).run P w = .ok (.value v') w := by
    intro v' h; simp [execOp, ho, h]
  cases hp : evalO st x <;> (rw [hp] at hx; simp only [loadReq]) <;> try exact failOk
  case pel t y =>
    split
    · rename_i i hi
      cases hf : fits i t with
      | false => simp only [cond_false]; exact failOk
      | true =>
        simp only [cond_true]
        refine pureOk hs fun v hv => ?_
        simp only [Tree.run_leaf, Option.some.injEq] at hv
        subst hv
        obtain ⟨v', h1, h2⟩ := load_pel_run hi ht hs.agree hx hf
        exact ⟨v', h1, hexec v' h2⟩
    · exact failOk
  case pidx s j k n off =>
    split
    · exact failOk
    · rename_i i hi
      exact loadArr_ok ht hs hi hx hexec
  case ptr s j off =>
    split
    · exact failOk
    · rename_i i hi
      intro v fs hrun next Q hn
      simp only [List.map_cons, List.map_nil] at hrun
      split at hrun
      · rename_i ls hj
        split at hrun
        · rename_i y hy
          simp only [Tree.run_leaf, Option.some.injEq, Prod.mk.injEq] at hrun
          obtain ⟨rfl, rfl⟩ := hrun
          obtain ⟨b, o', hL, hv⟩ := ptr_box hx
          obtain ⟨b', off', hloc, hb, cs, hrel, h1, hc⟩ := hs.res.at_ s j _ hj
          rw [hL] at hloc
          cases hloc
          obtain ⟨v', e1, e2⟩ := takeLeaves_load (P := P) hi ht hrel h1 (fun i hi => (hc i hi).1) hy
          rw [hexec v' (by rw [hv]; simpa [Instr.loadAt, Instr.sureAddr] using e2)]
          exact hn v' w m L e1 (read_did hs)
        · simp at hrun
      · simp at hrun

include ht in
theorem store_ok (hs : Sim m L st a w) {T : TypeId} {p x : Operand} (ho : o.op = .store T p x) (env : Env) : OpOk P o a w m L st (reqOf tab env o st) := by
  have hp := hs.eval p
  have hx := hs.eval x
  have hreq : reqOf tab env o st = storeReq tab T (evalO st p) (evalO st x) := by unfold reqOf; simp only [ho]
  rw [hreq]
  cases hpe : evalO st p <;> (rw [hpe] at hp; simp only [storeReq]) <;> try exact failOk
  case pidx s j k n off =>
    split
    · exact failOk
    · rename_i i hi
      exact storeArr_ok ht hs hi hp hx fun w' h => by simp [execOp, ho, h]
  case ptr s j off =>
    split
    · exact failOk
    · rename_i i hi
      intro v fs hrun next Q hn
      simp only [List.map_cons, List.map_nil] at hrun
      split at hrun
      · rename_i ls hj
        split at hrun
        · simp at hrun
        · rename_i new hnew
          cases hsz : Nat.beq new.length i.size with
          | false => simp [hsz] at hrun
          | true =>
            simp only [hsz, cond_true] at hrun
            split at hrun
            · rename_i ls' hput
              simp only [Tree.run_leaf, Option.some.injEq, Prod.mk.injEq] at hrun
              obtain ⟨rfl, rfl⟩ := hrun
              obtain ⟨hle, rfl⟩ := putLeaves_some hput
              obtain ⟨b, o', hL, hv⟩ := ptr_box hp
              obtain ⟨b', off', hloc, hb, cs, hrel, h1, hc⟩ := hs.res.at_ s j _ hj
              rw [hL] at hloc
              cases hloc
              obtain ⟨hcells, hone⟩ := cellsOf_rep hx hnew
              have hncs : (a.eval x).cells.toList.length = new.length := hcells.1
              have hcsl : cs.length = ls.length := hrel.1
              have hfit : off + (a.eval x).cells.toList.length ≤ cs.length := by omega
              have hcell : ∀ k, k < (a.eval x).cells.toList.length → w.cell? ⟨b, o' + off + k, none⟩ = cs[off + k]? ∧ w.frozen? ⟨b, o' + off + k, none⟩ = false ∧ m b (o' + off + k) = none := by
                intro k hk
                have := hc (off + k) (by omega)
                rwa [← Nat.add_assoc] at this
              have hrunst : (Instr.storeAt T (a.eval p) (a.eval x)).run P w = .ok () (w.setCells b (o' + off) (a.eval x).cells.toList) := by
                have hcs : (a.eval x).cells.size = i.size := by
                  have : new.length = i.size := Nat.eq_of_beq_eq_true hsz
                  have h2 : (a.eval x).cells.toList.length = (a.eval x).cells.size := by simp
                  omega
                have := run_storeCells_cells (P := P) b (o' + off) (a.eval x).cells.toList 0 w (fun k hk => by
                    rw [Nat.add_zero, (hcell k hk).1, List.getElem?_eq_getElem (by omega)]; rfl)
                  (fun k hk => by rw [Nat.add_zero]; exact (hcell k hk).2.1) hone
                rw [hv]
                simp only [Instr.storeAt, Instr.sureAddr, Sem.run_bind, Sem.run_pure, Result.andThen_ok, storeVar, run_sizeOf' ht hi, hcs, ne_eq, not_true_eq_false, if_false, Sem.run_ite]
                rw [Nat.add_zero] at this
                exact this
              have hexec : (execOp a.eval o).run P w = .ok .skip (w.setCells b (o' + off) (a.eval x).cells.toList) := by
                simp [execOp, ho, hrunst]
              rw [hexec]
              have hblk : ∃ cs0 E fr, w.heap[b]? = some (.cells cs0 E fr) ∨ (a.eval x).cells.toList = [] := by
                rcases Nat.eq_zero_or_pos (a.eval x).cells.toList.length with h0 | h0
                · exact ⟨#[], 0, (0, 0), .inr (List.eq_nil_of_length_eq_zero h0)⟩
                · have := (hcell 0 h0).1
                  rw [Nat.add_zero, Nat.add_zero, List.getElem?_eq_getElem (by omega)] at this
                  obtain ⟨cs0, E, fr, h⟩ := cell_block this
                  exact ⟨cs0, E, fr, .inl h⟩
              have hevo : Evo (foot (L s j) (.cells ls)) w m (w.setCells b (o' + off) (a.eval x).cells.toList) m := by
                obtain ⟨cs0, E, fr, hblk | hnil⟩ := hblk
                · refine evo_setCells hs.agree hb (fun k hk => by rw [(hcell k hk).1, List.getElem?_eq_getElem (by omega)]; rfl) (fun k hk => (hcell k hk).2.2) (fun k hk => ?_) ⟨cs0, E, fr, hblk⟩
                  rw [hL]; exact ⟨rfl, by omega, by omega⟩
                · rw [hnil]; exact .refl hs.agree
              have hlen' : (ls.take off ++ new ++ ls.drop (off + new.length)).length = ls.length := by simp; omega
              refine hn Go.undef _ m L .undef (did_set hs.agree hs.res hj hevo ?_ ?_)
              · refine ⟨b, o', hL, by rw [(setCells_os b _ _ w).2.2.2]; exact hb, _, put_rep hrel hcells (by omega), ?_, fun k hk => ?_⟩
                · intro c hc'
                  rcases List.mem_append.1 hc' with hc' | hc'
                  · rcases List.mem_append.1 hc' with hc' | hc'
                    · exact h1 c (List.mem_of_mem_take hc')
                    · exact hone c hc'
                  · exact h1 c (List.mem_of_mem_drop hc')
                · have hlc : (cs.take off ++ (a.eval x).cells.toList ++ cs.drop (off + (a.eval x).cells.toList.length)).length = cs.length := by
                    simp only [List.length_append, List.length_take, List.length_drop]; omega
                  have hk' : k < cs.length := by omega
                  rw [World.frozen?_setCells, put_cells hfit]
                  refine ⟨?_, (hc k hk').2⟩
                  by_cases hin : off ≤ k ∧ k < off + (a.eval x).cells.toList.length
                  · rw [if_pos hin]
                    have := World.cell?_setCells_in b (a.eval x).cells.toList (o' + off) w (fun q hq => by
                      rw [(hcell q hq).1, List.getElem?_eq_getElem (by omega)]; rfl) (k - off) (by omega)
                    rw [show o' + off + (k - off) = o' + k by omega] at this
                    rw [this, List.getElem?_eq_getElem (by omega)]
                  · rw [if_neg hin, World.cell?_setCells_out]
                    · exact (hc k hk').1
                    · intro _ _; simp only; omega
              · intro b' i' h
                rw [hL] at h ⊢
                simpa only [foot, hlen'] using h
            · simp at hrun
      · simp at hrun
end
end Go.Proofs.Am

set_option autoImplicit false
set_option linter.unusedVariables false
set_option linter.unusedSimpArgs false
namespace Go.Proofs.Am
open Go.RowKit

section
variable {P : Program} {tab : Tab} (ht : TabOk P tab) {m : Mem} {L : Locs} {w : World} {st : St} {a : Act} {o : Oper}

/-! ### Slices that are written out -/
theorem fill_order (size : Nat) : ∀ (vs : List Value) (k : Nat) (cs : Array Value), (∀ v ∈ vs, v.cells.size = size) → cs.size = (k + vs.length) * size →
    ∃ cs', Instr.fill (fun i => some (i * size, size)) cs ((vs.zipIdx k).map fun (v, i) => (i, v)) = some cs' ∧ cs'.toList = cs.toList.take (k * size) ++ vs.flatMap (·.cells.toList)
  | [], k, cs, hv, hs => ⟨cs, rfl, by
    simp only [List.length_nil, Nat.add_zero] at hs
    rw [List.take_of_length_le (by simp [hs])]
    simp⟩
  | v :: vs, k, cs, hv, hs => by
    have hv0 := hv v (by simp)
    have hs' : cs.size = (k + 1 + vs.length) * size := by rw [hs]; congr 1; simp only [List.length_cons]; omega
    have hfit : k * size + v.cells.size ≤ cs.size := by
      rw [hv0, hs', ← Nat.succ_mul]
      exact Nat.mul_le_mul_right _ (by omega)
    have hfold := fold_put v (k * size) cs hfit
    have hsz : (v.cells.zipIdx.foldl (fun cs (p : Value × Nat) => cs.setIfInBounds (k * size + p.2) p.1) cs).size = cs.size := by
      rw [← Array.length_toList, hfold]
      simp only [List.length_append, List.length_take, List.length_drop, Array.length_toList]
      omega
    obtain ⟨cs', e1, e2⟩ := fill_order size vs (k + 1) (v.cells.zipIdx.foldl (fun cs (p : Value × Nat) => cs.setIfInBounds (k * size + p.2) p.1) cs) (fun u hu => hv u (by simp [hu])) (by rw [hsz, hs'])
    refine ⟨cs', ?_, ?_⟩
    · rw [List.zipIdx_cons, List.map_cons]
      simp only [Instr.fill]
      rw [if_neg (by simp [hv0]; omega)]
      exact e1
    · rw [e2, hfold]
      have hl : (cs.toList.take (k * size) ++ v.cells.toList).length = (k + 1) * size := by
        simp only [List.length_append, List.length_take, Array.length_toList, hv0, Nat.succ_mul]
        omega
      rw [List.take_append_of_le_length (by omega), List.take_of_length_le (by omega)]
      simp

theorem inOrder_spec : ∀ (l : List (Nat × AV)) (n : Nat) (vs : List AV), inOrder n l = some vs → l.map (·.2) = vs ∧ l.map (·.1) = List.range' n vs.length
  | [], n, vs, h => by
    simp only [inOrder, Option.some.injEq] at h
    subst h; exact ⟨rfl, rfl⟩
  | (i, v) :: l, n, vs, h => by
    simp only [inOrder] at h
    cases hb : Nat.beq i n with
    | false => simp [hb] at h
    | true =>
      simp only [hb, cond_true, Option.map_eq_some_iff] at h
      obtain ⟨vs', h', rfl⟩ := h
      obtain ⟨e1, e2⟩ := inOrder_spec l (n + 1) vs' h'
      have : i = n := Nat.eq_of_beq_eq_true hb
      subst this
      exact ⟨by simp [e1], by simp [e2, List.range'_succ]⟩

theorem of_range : ∀ (l : List (Nat × Value)) (n : Nat), l.map (·.1) = List.range' n l.length → l = ((l.map (·.2)).zipIdx n).map fun (v, i) => (i, v)
  | [], _, _ => rfl
  | (i, v) :: l, n, h => by
    simp only [List.map_cons, List.length_cons, List.range'_succ, List.cons.injEq] at h
    obtain ⟨rfl, h⟩ := h
    have := of_range l (i + 1) h
    simp only [List.map_cons, List.zipIdx_cons]
    rw [← this]

theorem flat_get (size : Nat) : ∀ (vs : List Value), (∀ v ∈ vs, v.cells.size = size) → ∀ (i j : Nat) (hi : i < vs.length), j < size → (vs.flatMap (·.cells.toList))[i * size + j]? = vs[i].cells.toList[j]?
  | v :: vs, hv, 0, j, hi, hj => by
    have := hv v (by simp)
    simp only [List.flatMap_cons, Nat.zero_mul, Nat.zero_add, List.getElem_cons_zero]
    rw [List.getElem?_append_left (by simp; omega)]
  | v :: vs, hv, i + 1, j, hi, hj => by
    have h0 := hv v (by simp)
    simp only [List.flatMap_cons, List.getElem_cons_succ]
    rw [List.getElem?_append_right (by simp [h0, Nat.succ_mul]; omega)]
    rw [← flat_get size vs (fun u hu => hv u (by simp [hu])) i j (by simpa using hi) hj]
    congr 1
    simp [h0, Nat.succ_mul]; omega
theorem flat_len (size : Nat) : ∀ (vs : List Value), (∀ v ∈ vs, v.cells.size = size) → (vs.flatMap (·.cells.toList)).length = vs.length * size
  | [], _ => by simp
  | v :: vs, hv => by
    have h0 := hv v (by simp)
    have := flat_len size vs (fun u hu => hv u (by simp [hu]))
    simp only [List.flatMap_cons, List.length_append, this, Array.length_toList, h0, List.length_cons, Nat.succ_mul]
    omega

include ht in
theorem elemTy_some {T : TypeId} {i : TInfo} {t : Ty} (h : elemTy tab T = some (i, t)) :
    ∃ e, P.underlying T = some (.slice e) ∧ tab.find e = some i ∧ fits i t = true ∧ i.bytes ≠ 0 ∧ i.size ≠ 0 ∧ i.zero.length = i.size := by
  unfold elemTy at h
  split at h
  · rename_i i' hi
    split at h
    · rename_i t' ht'
      cases hc : (fits i' t' && !(Nat.beq i'.bytes 0) && !(Nat.beq i'.size 0) && Nat.beq i'.zero.length i'.size) with
      | false => simp [hc] at h
      | true =>
        simp only [hc, cond_true, Option.some.injEq, Prod.mk.injEq] at h
        obtain ⟨rfl, rfl⟩ := h
        simp only [Bool.and_eq_true, Bool.not_eq_true'] at hc
        obtain ⟨e, hu, he⟩ := sliceOf_some ht hi
        exact ⟨e, hu, he, hc.1.1.1, fun h => by rw [h] at hc; simp at hc, fun h => by rw [h] at hc; simp at hc, Nat.eq_of_beq_eq_true hc.2⟩
    · cases h
  · cases h

/-- A new row, its first 'n * size' cells stable, the list that it holds, the token of its end. -/
theorem newRow_did (hs : ResAt m L w st.res) (ha : Agree m w) {w' : World} {site : Nat} (hsite : st.res site = []) {t : Ty} {xs : List t.den} {cells : Array Value} {E : TypeId} {fr : Nat × Nat} {n cap : Nat} {cf : Nat → List Value}
    (hw : w' = { w with heap := w.heap.push (.cells cells E fr) } ∨ ∃ d, w' = { w with drawn := d, heap := w.heap.push (.cells cells E fr) })
    (hn : xs.length = n) (hmax : n ≤ maxStr) (hcap : n ≤ cap) (hsize : cap * t.size ≤ cells.size) (hfr : ∀ j, j < cells.size → ¬ (fr.1 ≤ j ∧ j < fr.2))
    (hcells : ∀ i, i < n → (cf i).length = t.size ∧ ∀ j, j < t.size → cells[i * t.size + j]? = (cf i)[j]?)
    (hrep : ∀ (i : Nat) (hi : i < xs.length), RepC m t (cf i) xs[i]) :
    ∃ m' L', ARep m' L' (.own t xs site 0) (.slice (some ⟨w.heap.size, 0, none⟩) n cap) ∧ Did [site] st.res (putRes st.res [site] [[.tok]]) w m L w' m' L' := by
  have hle : n * t.size ≤ cells.size := Nat.le_trans (Nat.mul_le_mul_right _ hcap) hsize
  have hevo : Evo (fun _ _ => False) w m w' (m.add w.heap.size fun j => if j < n * t.size then cells[j]? else none) := by
    rcases hw with rfl | ⟨d, rfl⟩
    · exact evo_settle ha hle
    · have h1 := evo_drew (F := fun _ _ => False) ha d
      have h2 := evo_settle (F := fun _ _ => False) (cs := cells) (E := E) (fr := fr) h1.agree hle
      exact h1.trans h2 (fun b j h => h.elim)
  have hheap : w'.heap[w.heap.size]? = some (.cells cells E fr) := by rcases hw with rfl | ⟨d, rfl⟩ <;> simp
  refine ⟨_, L.set site 0 (.tok (some (w.heap.size, n * t.size, cap * t.size))), ?_, did_single hs hsite hevo ?_ ?_⟩
  · refine .own t xs site 0 _ n cap ?_ (.inr ⟨some (w.heap.size, n * t.size, cap * t.size), by simp [Locs.set], 0, rfl, by omega, by omega, hcap⟩)
    refine .list t w.heap.size 0 n cap xs cf hn hmax hcap (fun i hi => ⟨(hcells i hi).1, fun j hj => ?_⟩) (fun i hi => (hrep i hi).mono hevo.le)
    have hij : i * t.size + j < n * t.size := by
      calc i * t.size + j < i * t.size + t.size := by omega
        _ = (i + 1) * t.size := by rw [Nat.succ_mul]
        _ ≤ n * t.size := Nat.mul_le_mul_right _ (by omega)
    simp only [Mem.add, if_true, Nat.zero_add, if_pos hij]
    exact (hcells i hi).2 j hj
  · refine ⟨_, rfl, fun b e lim h => ?_⟩
    simp only [Option.some.injEq, Prod.mk.injEq] at h
    obtain ⟨rfl, rfl, rfl⟩ := h
    refine ⟨cells, E, fr, hheap, hsize, fun j h1 h2 => ⟨?_, hfr j (by omega)⟩⟩
    simp only [Mem.add, if_true]
    rw [if_neg (by omega)]
  · rintro b i ⟨rfl, _⟩
    exact Nat.le_refl _

include ht in
theorem buildSlice_ok (hs : Sim m L st a w) {T : TypeId} {n : Nat} {parts : Array (Nat × Operand)} (ho : o.op = .buildSlice T n parts) (env : Env) : OpOk P o a w m L st (reqOf tab env o st) := by
  have hreq : reqOf tab env o st = buildSliceReq tab T n (parts.toList.map fun (i, x) => (i, evalO st x)) (o.dst.getD 0) := by unfold reqOf; simp only [ho]
  rw [hreq]
  unfold buildSliceReq
  split
  · rename_i i t vs hel hord
    cases hc : (Nat.beq vs.length n && Nat.ble (n * i.size) 16777216) with
    | false => simp only [cond_false]; exact failOk
    | true =>
      simp only [cond_true]
      simp only [Bool.and_eq_true] at hc
      have hvn : vs.length = n := Nat.eq_of_beq_eq_true hc.1
      have hmax : n * i.size ≤ 16777216 := Nat.le_of_ble_eq_true hc.2
      split
      · rename_i xs hxs
        intro v fs hrun next Q hn
        obtain ⟨hsite, rfl, rfl⟩ := single_run hrun
        obtain ⟨e, hu, he, hf, hb0, hs0, _⟩ := elemTy_some ht hel
        obtain ⟨hsz, hag⟩ := fits_size hf
        obtain ⟨hm1, hm2⟩ := inOrder_spec _ _ _ hord
        have hvals : ReL m L vs (parts.toList.map fun p => a.eval p.2) := by
          have := hs.evals (parts.toList.map (·.2))
          simp only [List.map_map] at this hm1
          rw [← hm1]
          exact this
        obtain ⟨hxl, hxr⟩ := castAll_rep hvals hxs
        have hvl : (parts.toList.map fun p => a.eval p.2).length = n := by rw [hvals.1, hvn]
        have hsizes : ∀ u ∈ (parts.toList.map fun p => a.eval p.2), u.cells.size = t.size := by
          intro u hu'
          obtain ⟨k, hk, rfl⟩ := List.mem_iff_getElem.1 hu'
          have := (hxr k (by omega) hk).cells.length
          simpa using this
        obtain ⟨z, hzr, hzc⟩ := run_zeroValue' ht he w
        have hvp : (parts.map fun (p : Nat × Operand) => (p.1, a.eval p.2)).toList = ((parts.toList.map fun p => a.eval p.2).zipIdx 0).map fun (v, i) => (i, v) := by
          have h1 : (parts.toList.map fun p => a.eval p.2) = (parts.toList.map fun p => (p.1, a.eval p.2)).map (·.2) := by simp
          rw [Array.toList_map, h1]
          refine of_range _ 0 ?_
          simp only [List.map_map, List.length_map] at hm2 ⊢
          have h2 : parts.toList.length = vs.length := by have := hvals.1; simpa using this
          rw [h2]
          exact hm2
        have hxn : xs.length = n := hxl.trans hvn
        by_cases h0 : n * i.size = 0
        · have hn0 : n = 0 := by
            rcases Nat.mul_eq_zero.1 h0 with h | h
            · exact h
            · exact absurd h hs0
          obtain ⟨cs', e1, e2⟩ := fill_order t.size (parts.toList.map fun p => a.eval p.2) 0 ((Array.range (n * i.size)).map ((#[] : Array Value)[· % (#[] : Array Value).size]!)) hsizes (by rw [hvl, hsz]; simp)
          obtain ⟨m', L', hv, hd⟩ := newRow_did (E := e) (fr := (0, 0)) (cells := cs') (t := t) (xs := xs) (n := n) (cap := n) (cf := fun _ => []) hs.res hs.agree hsite (.inl rfl) hxn (by unfold maxStr; omega) (Nat.le_refl _)
            (by rw [hn0]; simp) (fun j _ => by simp) (fun i hi => by omega) (fun i hi => by omega)
          have : (execOp a.eval o).run P w = .ok (.value (.slice (some ⟨w.heap.size, 0, none⟩) n n)) { w with heap := w.heap.push (.cells cs' e) } := by
            have hb : (Instr.buildSlice T n (parts.map fun (p : Nat × Operand) => (p.1, a.eval p.2))).run P w = .ok (.slice (some ⟨w.heap.size, 0, none⟩) n n) { w with heap := w.heap.push (.cells cs' e) } := by
              rw [hsz] at h0 e1
              unfold Instr.buildSlice
              rw [hvp]
              simp only [h0] at e1
              simp only [Sem.run_bind, run_under hu, Result.andThen_ok, run_sizeOf' ht he, hsz, h0, Sem.run_ite, Sem.run_pure, if_true, e1, newRow, run_newObj]
              rfl
            simp only [execOp, ho]
            rw [Sem.run_bind, hb]
            rfl
          rw [this]
          exact hn _ _ _ _ hv hd
        · obtain ⟨cs', e1, e2⟩ := fill_order t.size (parts.toList.map fun p => a.eval p.2) 0 ((Array.range (n * i.size)).map (z.cells[· % z.cells.size]!)) hsizes (by rw [hvl, hsz]; simp)
          simp only [Nat.zero_mul, List.take_zero, List.nil_append] at e2
          have hlen : cs'.size = n * t.size := by rw [← Array.length_toList, e2, flat_len t.size _ hsizes, hvl]
          obtain ⟨m', L', hv, hd⟩ := newRow_did (E := e) (fr := (0, 0)) (cells := cs') (t := t) (xs := xs) (n := n) (cap := n) (cf := fun k => ((parts.toList.map fun p => a.eval p.2)[k]?.map (·.cells.toList)).getD []) hs.res hs.agree hsite (.inl rfl) hxn
            (by unfold maxStr; have := Nat.le_mul_of_pos_right n (Nat.pos_of_ne_zero hs0); omega) (Nat.le_refl _)
            (by rw [hlen]; exact Nat.le_refl _) (fun j _ => by simp) (fun k hk => by
              have hk' : k < (parts.toList.map fun p => a.eval p.2).length := by omega
              rw [List.getElem?_eq_getElem hk']
              simp only [Option.map_some, Option.getD_some]
              refine ⟨by simpa using hsizes _ (List.getElem_mem hk'), fun j hj => ?_⟩
              rw [← Array.getElem?_toList, e2, flat_get t.size _ hsizes k j hk' hj])
            (fun k hk => by
              have hk' : k < (parts.toList.map fun p => a.eval p.2).length := by omega
              rw [List.getElem?_eq_getElem hk']
              exact (hxr k hk hk').cells)
          have : (execOp a.eval o).run P w = .ok (.value (.slice (some ⟨w.heap.size, 0, none⟩) n n)) { w with heap := w.heap.push (.cells cs' e) } := by
            have hb : (Instr.buildSlice T n (parts.map fun (p : Nat × Operand) => (p.1, a.eval p.2))).run P w = .ok (.slice (some ⟨w.heap.size, 0, none⟩) n n) { w with heap := w.heap.push (.cells cs' e) } := by
              rw [hsz] at h0 e1 hmax
              unfold Instr.buildSlice
              rw [hvp]
              have hbig : ¬ (n * t.size > 2 ^ 24) := by simpa using hmax
              simp only [Sem.run_bind, run_under hu, Result.andThen_ok, run_sizeOf' ht he, hsz, Sem.run_ite, Sem.run_pure, if_neg hbig, if_neg h0, hzr, e1, newRow, run_newObj]
            simp only [execOp, ho]
            rw [Sem.run_bind, hb]
            rfl
          rw [this]
          exact hn _ _ _ _ hv hd
      · exact failOk
  · exact failOk
end
end Go.Proofs.Am

set_option autoImplicit false
set_option linter.unusedVariables false
set_option linter.unusedSimpArgs false
namespace Go.Proofs.Am
open Go.RowKit

section
variable {P : Program} {tab : Tab} (ht : TabOk P tab) {m : Mem} {L : Locs} {w : World} {st : St} {a : Act} {o : Oper}

/-! ### Conversions -/
theorem bytes_cells {xs : List Int} {A : Option Addr} {n c : Nat} (ha : Agree m w) (h : RepC m (.list (.int .u8)) [.slice A n c] xs) :
    (A = none ∧ n = 0) ∨ ∃ ad, A = some ad ∧ (n = 0 ∨ ∃ b off, ad = ⟨b, off, none⟩ ∧ ∀ i, i < n → w.cell? ⟨b, off + i, none⟩ = some (.int .u8 (xs.getD i 0))) := by
  cases h with
  | nil => cases A with
    | none => exact .inl ⟨rfl, rfl⟩
    | some ad => exact .inr ⟨ad, rfl, .inl rfl⟩
  | list _ b off _ _ _ cs hn hl hc hm h =>
    refine .inr ⟨_, rfl, .inr ⟨b, off, rfl, fun i hi => ?_⟩⟩
    have hi' : i < xs.length := by omega
    have hr := h i hi'
    have h2 := (hm i hi).2 0 (by decide)
    generalize hcs : cs i = l at hr h2
    cases hr with
    | int _ k hk =>
      simp only [Ty.size, Nat.mul_one, Nat.add_zero, List.getElem?_cons_zero] at h2
      have := ha _ _ _ h2
      rw [this]
      simp [List.getD_eq_getElem?_getD, List.getElem?_eq_getElem hi']

theorem toBytes_len (xs : List Int) : (toBytes xs).length = xs.length := by simp [toBytes]

theorem conv_bytes {src dst e : TypeId} {xs : List Int} {A : Option Addr} {n c : Nat} (ha : Agree m w) (h : RepC m (.list (.int .u8)) [.slice A n c] xs) (hs : P.underlying src = some (.slice e)) (he : P.underlying e = some (.int .u8))
    (hd : P.underlying dst = some .string) : (convert src dst (.slice A n c)).run P w = .ok (.string (strOfNums xs)) w := by
  obtain ⟨hlen, _⟩ := list_len h
  rcases bytes_cells ha h with ⟨rfl, rfl⟩ | ⟨ad, rfl, h0 | ⟨b, off, rfl, hc⟩⟩
  · have : xs = [] := List.eq_nil_of_length_eq_zero hlen
    subst this
    rw [run_convert_bytes_nil w src e hs he 0 c dst hd]
    rfl
  · subst h0
    have : xs = [] := List.eq_nil_of_length_eq_zero hlen
    subst this
    simp only [convert, Sem.run_bind, run_under hs, run_under hd, run_under he, Result.andThen_ok, Conv.bytesToString, loadCells, loadCellsFrom, Sem.run_pure]
    rfl
  · exact run_convert_bytes_arg w src e hs he b off n c xs hlen hc dst hd

theorem ofBytes_cell (s : ByteArray) (i : Nat) (h : i < s.size) : (s.data.map fun b => Value.int .u8 (b.toNat : Int))[i]? = some (.int .u8 ((ofBytes s.data.toList).getD i 0)) := by
  have h' : i < s.data.size := h
  simp [ofBytes, List.getD_eq_getElem?_getD, Array.getElem?_eq_getElem h']

theorem u8_range (b : UInt8) : inRange .u8 (b.toNat : Int) := by
  have := b.toNat_lt
  have e1 : IntKind.min .u8 = 0 := rfl
  have e2 : IntKind.max .u8 = 255 := rfl
  unfold inRange
  rw [e1, e2]
  omega

include ht in
theorem conv_ok (hs : Sim m L st a w) {src dst : TypeId} {x : Operand} (ho : o.op = .convert src dst x) (env : Env) : OpOk P o a w m L st (reqOf tab env o st) := by
  have hx := hs.eval x
  have hreq : reqOf tab env o st = convAV tab src dst (o.dst.getD 0) (evalO st x) := by unfold reqOf; simp only [ho]
  rw [hreq]
  have hexec : ∀ v', (convert src dst (a.eval x)).run P w = .ok v' w → (execOp a.eval o).run P w = .ok (.value v') w := by
    intro v' h; simp [execOp, ho, h]
  unfold convAV
  split
  · rename_i si k size bytes zero ty teq hsrc hdst
    obtain ⟨ds, hus, _⟩ := under_of ht hsrc
    have hud := under_int ht hdst rfl
    split
    · rename_i kk n hi
      obtain ⟨hv, _⟩ := intOf_rep hx hi
      refine pureOk hs fun v hv' => ?_
      simp only [Tree.run_leaf, Option.some.injEq] at hv'
      subst hv'
      refine ⟨_, ok_int (wrap_range _ _), hexec _ ?_⟩
      rw [hv]
      cases ds <;> simp [convert, run_under hus, run_under hud, Conv.intToInt]
    · exact failOk
  · rename_i si size bytes zero ty teq hsrc hdst
    obtain ⟨ds, hus, _⟩ := under_of ht hsrc
    have hud := under_str ht hdst rfl
    split
    · rename_i s hi
      obtain ⟨s', hv, rfl, hsz⟩ := strOf_rep hx hi
      refine pureOk hs fun v hv' => ?_
      simp only [Tree.run_leaf, Option.some.injEq] at hv'
      subst hv'
      refine ⟨_, ok_str rfl hsz, hexec _ ?_⟩
      rw [hv]
      cases ds <;> simp [convert, run_under hus, run_under hud]
    · split
      · rename_i size' bytes' zero' ty' teq' xs hsl hl
        obtain ⟨e, hue, hei⟩ := sliceOf_some ht hsl
        have hu8 := under_int ht hei rfl
        obtain ⟨A, n, c, hv, hr⟩ := listOf_rep hx hl
        obtain ⟨hn, hmax⟩ := list_len hr
        refine pureOk hs fun v hv' => ?_
        simp only [Tree.run_leaf, Option.some.injEq] at hv'
        subst hv'
        refine ⟨.string (strOfNums xs), ok_str (strOfNums_data xs) (by rw [strOfNums_size]; omega), hexec _ ?_⟩
        rw [hv]
        exact conv_bytes hs.agree hr hue hu8 hud
      · rename_i size' bytes' zero' ty' teq' hsl hl
        obtain ⟨e, hue, hei⟩ := sliceOf_some ht hsl
        have hu8 := under_int ht hei rfl
        split
        · rename_i hnil
          rw [hnil] at hx
          refine pureOk hs fun v hv' => ?_
          simp only [Tree.run_leaf, Option.some.injEq] at hv'
          subst hv'
          have hv : a.eval x = .slice none 0 0 := by cases h : a.eval x <;> rw [h] at hx <;> cases hx; rfl
          refine ⟨.string ByteArray.empty, ok_str rfl (by simp), hexec _ ?_⟩
          rw [hv]
          exact run_convert_bytes_nil w src e hue hu8 0 0 dst hud
        · exact failOk
      · exact failOk
  · rename_i size bytes zero ty teq e size' bytes' zero' ty' teq' hsrc hdst
    have hus := under_str ht hsrc rfl
    have hud := under_slice ht hdst rfl
    split
    · rename_i size'' bytes'' zero'' ty'' s hei hi
      have hu8 := under_int ht hei rfl
      obtain ⟨s', hv, rfl, hsz⟩ := strOf_rep hx hi
      intro v fs hrun next Q hn
      simp only [List.map_cons, List.map_nil] at hrun
      split at hrun
      · rename_i hsite
        have hsite' : st.res (o.dst.getD 0) = [] := by simpa using hsite
        simp only [Tree.run_leaf, Option.some.injEq, Prod.mk.injEq] at hrun
        obtain ⟨rfl, rfl⟩ := hrun
        have hrunc := run_bytes_of_string w src dst e s' hus hud hu8
        have hcap : s'.size ≤ grownCap w s'.size 0 e := by simp [grownCap, Question.cut]
        have hsize : (bytesRow s' (grownCap w s'.size 0 e)).size = grownCap w s'.size 0 e := by
          have : s'.data.size = s'.size := rfl
          simp [bytesRow, this]; omega
        obtain ⟨m', L', hv', hd⟩ := newRow_did (w' := w.drew.alloc (.cells (bytesRow s' (grownCap w s'.size 0 e)) e ((bytesRow s' (grownCap w s'.size 0 e)).size, (bytesRow s' (grownCap w s'.size 0 e)).size + 1)))
          (site := o.dst.getD 0) (t := .int .u8) (xs := ofBytes s'.data.toList) (n := s'.size) (cap := grownCap w s'.size 0 e) (cf := fun i => [.int .u8 ((ofBytes s'.data.toList).getD i 0)])
          hs.res hs.agree hsite' (.inr ⟨w.drawn + 1, rfl⟩) (by simp [ofBytes]) hsz hcap (by rw [hsize]; simp [Ty.size]) (fun j hj => by omega)
          (fun i hi => ⟨rfl, fun j hj => by
            have : j = 0 := by simp only [Ty.size] at hj; omega
            subst this
            simp only [Ty.size, Nat.mul_one, Nat.add_zero, List.getElem?_cons_zero, bytesRow]
            rw [Array.getElem?_append_left (by simpa using hi)]
            exact ofBytes_cell s' i hi⟩)
          (fun i hi => by
            simp only [List.getD_eq_getElem?_getD, List.getElem?_eq_getElem hi, Option.getD_some]
            refine .int _ _ ?_
            simp only [ofBytes, List.getElem_map]
            exact u8_range _)
        have : (execOp a.eval o).run P w = .ok (.value (.slice (some ⟨w.heap.size, 0, none⟩) s'.size (grownCap w s'.size 0 e)))
            (w.drew.alloc (.cells (bytesRow s' (grownCap w s'.size 0 e)) e ((bytesRow s' (grownCap w s'.size 0 e)).size, (bytesRow s' (grownCap w s'.size 0 e)).size + 1))) := by
          simp only [execOp, ho]
          rw [Sem.run_bind, hv, hrunc]
          rfl
        rw [this]
        exact hn _ _ _ _ hv' hd
      · simp at hrun
    · exact failOk
  · exact failOk
end
end Go.Proofs.Am

set_option autoImplicit false
set_option linter.unusedVariables false
set_option linter.unusedSimpArgs false
namespace Go.Proofs.Am
open Go.RowKit

section
variable {P : Program} {tab : Tab} (ht : TabOk P tab) {m : Mem} {L : Locs} {w : World} {st : St} {a : Act} {o : Oper}

/-- What append takes its elements from. -/
structure Src (P : Program) (m : Mem) (w : World) (t : Ty) (ys : List t.den) (vx : Value) (ny : Nat) (news : List Value) (cf : Nat → List Value) : Prop where
  len : (Builtin.lenOf vx).run P w = .ok ny w
  many : ys.length = ny
  cells : news.length = ny * t.size
  first : ∀ w' : World, (∀ b j v, m b j = some v → w'.cell? ⟨b, j, none⟩ = some v) → (Builtin.firstCells t.size ny vx).run P w' = .ok news.toArray w'
  one : ∀ v ∈ news, v.oneCell' = true
  get : ∀ i, i < ny → (cf i).length = t.size ∧ ∀ j, j < t.size → news[i * t.size + j]? = (cf i)[j]?
  rep : ∀ (i : Nat) (hi : i < ys.length), RepC m t (cf i) ys[i]

theorem list_cells {t : Ty} {xs : List t.den} {A : Option Addr} {n c : Nat} (hsz : t.size ≠ 0) (h : RepC m (.list t) [.slice A n c] xs) :
    ∃ (olds : List Value) (cf : Nat → List Value), olds.length = n * t.size ∧ (∀ v ∈ olds, v.oneCell' = true) ∧ (∀ i, i < n → (cf i).length = t.size ∧ ∀ j, j < t.size → olds[i * t.size + j]? = (cf i)[j]?) ∧
      (∀ (i : Nat) (hi : i < xs.length), RepC m t (cf i) xs[i]) ∧ (n = 0 ∨ ∃ b off, A = some ⟨b, off, none⟩ ∧ ∀ k, k < n * t.size → m b (off + k) = olds[k]?) := by
  cases h with
  | nil => exact ⟨[], fun _ => [], by simp, by simp, fun i hi => by omega, fun i hi => by simp at hi, .inl rfl⟩
  | list _ b off _ _ _ cs hn hl hc hm hh =>
    have hs : ∀ i, i < n → ∀ v ∈ ((List.range n).map fun i => Value.agg ⟨cs i⟩), v.cells.size = t.size := by
      intro _ _ v hv
      simp only [List.mem_map, List.mem_range] at hv
      obtain ⟨i, hi, rfl⟩ := hv
      simpa [Value.cells] using (hm i hi).1
    have hsa : ∀ v ∈ ((List.range n).map fun i => Value.agg ⟨cs i⟩), v.cells.size = t.size := by
      intro v hv
      simp only [List.mem_map, List.mem_range] at hv
      obtain ⟨i, hi, rfl⟩ := hv
      simpa [Value.cells] using (hm i hi).1
    have hget : ∀ i, i < n → ∀ j, j < t.size → (((List.range n).map fun i => Value.agg ⟨cs i⟩).flatMap (·.cells.toList))[i * t.size + j]? = (cs i)[j]? := by
      intro i hi j hj
      rw [flat_get t.size _ hsa i j (by simpa using hi) hj]
      simp [Value.cells]
    refine ⟨((List.range n).map fun i => Value.agg ⟨cs i⟩).flatMap (·.cells.toList), cs, by rw [flat_len t.size _ hsa]; simp, ?_, fun i hi => ⟨(hm i hi).1, hget i hi⟩, hh, .inr ⟨b, off, rfl, fun k hk => ?_⟩⟩
    · intro v hv
      simp only [List.mem_flatMap, List.mem_map, List.mem_range] at hv
      obtain ⟨u, ⟨i, hi, rfl⟩, hv⟩ := hv
      exact (hh i (by omega)).oneCell v (by simpa [Value.cells] using hv)
    · have hi : k / t.size < n := Nat.div_lt_of_lt_mul (by rw [Nat.mul_comm]; exact hk)
      have hj : k % t.size < t.size := Nat.mod_lt _ (Nat.pos_of_ne_zero hsz)
      have e : k / t.size * t.size + k % t.size = k := by rw [Nat.mul_comm]; exact Nat.div_add_mod k t.size
      have h1 := (hm _ hi).2 _ hj
      have h2 := hget _ hi _ hj
      rw [e] at h2
      rw [h2, ← h1, Nat.add_assoc, e]

theorem src_list {t : Ty} {ys : List t.den} {A : Option Addr} {n c : Nat} (hsz : t.size ≠ 0) (h : RepC m (.list t) [.slice A n c] ys) : ∃ news cf, Src P m w t ys (.slice A n c) n news cf := by
  obtain ⟨olds, cf, h1, h2, h3, h4, h5⟩ := list_cells hsz h
  refine ⟨olds, cf, by simp [Builtin.lenOf], (list_len h).1, h1, fun w' hw => ?_, h2, h3, h4⟩
  rcases h5 with h0 | ⟨b, off, rfl, hc⟩
  · subst h0
    have : olds = [] := List.eq_nil_of_length_eq_zero (by simpa using h1)
    subst this
    cases A with
    | none => exact run_firstCells_none w' _ _ _ _
    | some ad => simp [Builtin.firstCells, loadCells, loadCellsFrom]
  · refine run_firstCells_some w' t.size n _ n c olds h1 fun j v hv => ?_
    rw [addr_add]
    have hj : j < n * t.size := by
      rcases Nat.lt_or_ge j olds.length with h | h
      · omega
      · rw [List.getElem?_eq_none h] at hv; cases hv
    exact hw _ _ _ ((hc j hj).trans hv)

theorem src_string {s : ByteArray} : Src P m w (.int .u8) (ofBytes s.data.toList) (.string s) s.size (s.data.map fun b => Value.int .u8 (b.toNat : Int)).toList (fun i => [.int .u8 ((ofBytes s.data.toList).getD i 0)]) where
  len := by simp [Builtin.lenOf]
  many := by simp [ofBytes]
  cells := by simp [Ty.size]
  first w' _ := by
    simp only [Builtin.firstCells, Sem.run_pure]
    congr 1
    have : s.extract 0 s.size = s := by
      apply ByteArray.ext
      rw [ByteArray.data_extract]
      exact Array.extract_size
    rw [this]
  one v hv := by
    simp only [Array.toList_map, List.mem_map] at hv
    obtain ⟨b, _, rfl⟩ := hv
    rfl
  get i hi := ⟨rfl, fun j hj => by
    have : j = 0 := by simp only [Ty.size] at hj; omega
    subst this
    simp only [Ty.size, Nat.mul_one, Nat.add_zero, List.getElem?_cons_zero]
    rw [Array.getElem?_toList]
    exact ofBytes_cell s i hi⟩
  rep i hi := by
    simp only [List.getD_eq_getElem?_getD, List.getElem?_eq_getElem hi, Option.getD_some]
    refine .int _ _ ?_
    simp only [ofBytes, List.getElem_map]
    exact u8_range _

/-- Two rows of elements, one behind the other. -/
theorem get_append {size n ny : Nat} {olds news : List Value} {cf1 cf2 : Nat → List Value} (h1 : olds.length = n * size) (g1 : ∀ i, i < n → (cf1 i).length = size ∧ ∀ j, j < size → olds[i * size + j]? = (cf1 i)[j]?)
    (g2 : ∀ i, i < ny → (cf2 i).length = size ∧ ∀ j, j < size → news[i * size + j]? = (cf2 i)[j]?) :
    ∀ i, i < n + ny → ((if i < n then cf1 i else cf2 (i - n)).length = size ∧ ∀ j, j < size → (olds ++ news)[i * size + j]? = (if i < n then cf1 i else cf2 (i - n))[j]?) := by
  intro i hi
  by_cases h : i < n
  · rw [if_pos h]
    refine ⟨(g1 i h).1, fun j hj => ?_⟩
    have : i * size + j < n * size := by
      calc i * size + j < i * size + size := by omega
        _ = (i + 1) * size := by rw [Nat.succ_mul]
        _ ≤ n * size := Nat.mul_le_mul_right _ (by omega)
    rw [List.getElem?_append_left (by omega)]
    exact (g1 i h).2 j hj
  · rw [if_neg h]
    refine ⟨(g2 (i - n) (by omega)).1, fun j hj => ?_⟩
    have e : i * size = n * size + (i - n) * size := by rw [← Nat.add_mul]; congr 1; omega
    rw [List.getElem?_append_right (by omega), h1, e, show n * size + (i - n) * size + j - n * size = (i - n) * size + j by omega]
    exact (g2 (i - n) (by omega)).2 j hj

theorem rep_append {t : Ty} {xs ys : List t.den} {n : Nat} {cf1 cf2 : Nat → List Value} (hn : xs.length = n) (h1 : ∀ (i : Nat) (hi : i < xs.length), RepC m t (cf1 i) xs[i]) (h2 : ∀ (i : Nat) (hi : i < ys.length), RepC m t (cf2 i) ys[i]) :
    ∀ (i : Nat) (hi : i < (xs ++ ys).length), RepC m t (if i < n then cf1 i else cf2 (i - n)) (xs ++ ys)[i] := by
  intro i hi
  by_cases h : i < n
  · rw [if_pos h, List.getElem_append_left (by omega)]
    exact h1 i (by omega)
  · rw [if_neg h, List.getElem_append_right (by omega)]
    subst hn
    exact h2 (i - xs.length) (by simp at hi; omega)

theorem lim_mul {n bytes : Nat} (h : n ≤ lim bytes) : n * bytes ≤ 140737488355328 := by
  unfold lim at h
  exact Nat.le_trans (Nat.mul_le_mul_right _ h) (Nat.div_mul_le_self _ _)

/-- The row that a growing append makes. -/
theorem grown_did {w0 : World} (hw0 : w0 = { w with drawn := w0.drawn }) (hs : ResAt m L w st.res) (ha : Agree m w) {site : Nat} (hsite : st.res site = []) {t : Ty} {zs : List t.den} {row : List Value} {rest : Array Value} {E : TypeId} {n cap : Nat} {cf : Nat → List Value}
    (hn : zs.length = n) (hmax : n ≤ maxStr) (hcap : n ≤ cap) (hrow : row.length = n * t.size) (hrest : rest.size = (cap - n) * t.size)
    (hget : ∀ i, i < n → (cf i).length = t.size ∧ ∀ j, j < t.size → row[i * t.size + j]? = (cf i)[j]?) (hrep : ∀ (i : Nat) (hi : i < zs.length), RepC m t (cf i) zs[i]) :
    ∃ m' L', ARep m' L' (.own t zs site 0) (.slice (some ⟨w.heap.size, 0, none⟩) n cap) ∧ Did [site] st.res (putRes st.res [site] [[.tok]]) w m L { w0 with heap := w0.heap.push (.cells (row.toArray ++ rest) E) } m' L' := by
  refine newRow_did (fr := (0, 0)) (cells := row.toArray ++ rest) (E := E) hs ha hsite (.inr ⟨w0.drawn, ?_⟩) hn hmax hcap ?_ (fun j _ => by simp) (fun i hi => ⟨(hget i hi).1, fun j hj => ?_⟩) hrep
  · rw [hw0]
  · simp only [Array.size_append, List.size_toArray, hrow, hrest]
    rw [← Nat.add_mul]
    exact Nat.mul_le_mul_right _ (by omega)
  · have : i * t.size + j < n * t.size := by
      calc i * t.size + j < i * t.size + t.size := by omega
        _ = (i + 1) * t.size := by rw [Nat.succ_mul]
        _ ≤ n * t.size := Nat.mul_le_mul_right _ (by omega)
    rw [Array.getElem?_append_left (by simp; omega)]
    simp only [List.getElem?_toArray]
    exact (hget i hi).2 j hj

theorem foot_gone {l : Loc} {b i : Nat} : ¬ foot l .gone b i := by cases l <;> simp [foot]

/-- The owner's token dies; a new one is made. -/
theorem did_append {m' : Mem} {w' : World} {R : Nat → List Cont} {s j site : Nat} {r : Option (Nat × Nat × Nat)} {l : Loc} (ha : Agree m w) (hr : ResAt m L w R) (hj : (R s)[j]? = some .tok) (hL : L s j = .tok r) (hsite : R site = [])
    (he : Evo (foot (L s j) .tok) w m w' m') (hc : ContAt m' ((L.set s j .dead).set site 0 l) w' l .tok) (hf : ∀ b i, foot l .tok b i → foot (L s j) .tok b i ∨ w.heap.size ≤ b) :
    Did [s, site] R (putRes R [s, site] [(R s).set j .gone, [.tok]]) w m L w' m' ((L.set s j .dead).set site 0 l) := by
  have hne : s ≠ site := by rintro rfl; rw [hsite] at hj; simp at hj
  have hno := hr.no site hsite
  have hjlt : j < (R s).length := by
    rcases Nat.lt_or_ge j (R s).length with h | h
    · exact h
    · rw [List.getElem?_eq_none h] at hj; cases hj
  have hkeep : L.le ((L.set s j .dead).set site 0 l) := by
    intro s' j' h0
    by_cases h1 : s' = site ∧ j' = 0
    · rw [h1.1] at h0; exact absurd (hno _) h0
    · by_cases h2 : s' = s ∧ j' = j
      · refine .inr (.inl ⟨⟨r, by rw [h2.1, h2.2, hL]⟩, ?_⟩)
        simp [Locs.set, h1, h2, hne]
      · exact .inl (by simp [Locs.set, h1, h2])
  have hRs : putRes R [s, site] [(R s).set j .gone, [.tok]] s = (R s).set j .gone := by simp [putRes]
  have hRt : putRes R [s, site] [(R s).set j .gone, [.tok]] site = [.tok] := by simp only [putRes]; rw [setF_other _ _ (Ne.symm hne), setF_same]
  have hLo : ∀ j', j' ≠ j → ((L.set s j .dead).set site 0 l) s j' = L s j' := fun j' h => by simp [Locs.set, hne, h]
  have hLt : ((L.set s j .dead).set site 0 l) site 0 = l := by simp [Locs.set]
  have hgs : ∀ j' c', ((R s).set j .gone)[j']? = some c' → (j' = j ∧ c' = .gone) ∨ (j' ≠ j ∧ (R s)[j']? = some c') := by
    intro j' c0 h
    by_cases he : j' = j
    · subst he
      rw [List.getElem?_set_self hjlt] at h
      exact .inl ⟨rfl, (Option.some.inj h).symm⟩
    · rw [List.getElem?_set_ne (Ne.symm he)] at h
      exact .inr ⟨he, h⟩
  have hgt : ∀ j' c', ([Cont.tok] : List Cont)[j']? = some c' → j' = 0 ∧ c' = .tok := by
    intro j' c' h
    match j', h with
    | 0, h => exact ⟨rfl, by simpa using h.symm⟩
  have hall : ∀ s' j' c', s' ∈ [s, site] → (putRes R [s, site] [(R s).set j .gone, [.tok]] s')[j']? = some c' →
      (s' = s ∧ j' = j ∧ c' = .gone) ∨ (s' = s ∧ j' ≠ j ∧ (R s)[j']? = some c') ∨ (s' = site ∧ j' = 0 ∧ c' = .tok) := by
    intro s' j' c' h h'
    simp only [List.mem_cons, List.not_mem_nil, or_false] at h
    rcases h with rfl | rfl
    · rw [hRs] at h'
      rcases hgs _ _ h' with ⟨h1, h2⟩ | ⟨h1, h2⟩
      · exact .inl ⟨rfl, h1, h2⟩
      · exact .inr (.inl ⟨rfl, h1, h2⟩)
    · rw [hRt] at h'
      exact .inr (.inr ⟨rfl, hgt _ _ h'⟩)
  refine ⟨he.weaken fun b i h => ⟨s, j, _, by simp, hj, h⟩, hkeep, fun s' h => ?_, ?_, ?_, ?_, ?_⟩
  · simp only [List.mem_cons, List.not_mem_nil, or_false, not_or] at h
    refine ⟨?_, fun j' => by simp [Locs.set, h.1, h.2]⟩
    simp only [putRes]
    rw [setF_other _ _ h.1, setF_other _ _ h.2]
  · intro s' j' c' h h'
    rcases hall _ _ _ h h' with ⟨rfl, rfl, rfl⟩ | ⟨rfl, h1, h2⟩ | ⟨rfl, rfl, rfl⟩
    · trivial
    · rw [hLo _ h1]
      exact (hr.at_ _ _ _ h2).kept ha hkeep he fun b i h3 h4 => hr.apart _ _ _ _ _ _ h2 hj (fun e => h1 (by cases e; rfl)) b i h3 h4
    · rw [hLt]; exact hc
  · intro s1 j1 c1 s2 j2 c2 h1 h2 h3 h4 hne' b i f1 f2
    rcases hall _ _ _ h1 h3 with ⟨rfl, rfl, rfl⟩ | ⟨rfl, g1, g2⟩ | ⟨rfl, rfl, rfl⟩ <;> rcases hall _ _ _ h2 h4 with ⟨e1, e2, e3⟩ | ⟨e1, g3, g4⟩ | ⟨e1, e2, e3⟩
    · exact foot_gone f1
    · exact foot_gone f1
    · exact foot_gone f1
    · subst e3; exact foot_gone f2
    · subst e1
      rw [hLo _ g1] at f1
      rw [hLo _ g3] at f2
      exact hr.apart _ _ _ _ _ _ g2 g4 hne' b i f1 f2
    · subst e1; subst e2; subst e3
      rw [hLo _ g1] at f1
      rw [hLt] at f2
      rcases hf b i f2 with h | h
      · exact hr.apart _ _ _ _ _ _ g2 hj (fun e => g1 (by cases e; rfl)) b i f1 h
      · have := (hr.at_ _ _ _ g2).foot_lt f1; omega
    · subst e3; exact foot_gone f2
    · subst e1
      rw [hLo _ g3] at f2
      rw [hLt] at f1
      rcases hf b i f1 with h | h
      · exact hr.apart _ _ _ _ _ _ g4 hj (fun e => g3 (by cases e; rfl)) b i f2 h
      · have := (hr.at_ _ _ _ g4).foot_lt f2; omega
    · subst e1; subst e2; exact hne' rfl
  · intro s1 j1 c1 h1 h3 b i f1
    rcases hall _ _ _ h1 h3 with ⟨rfl, rfl, rfl⟩ | ⟨rfl, g1, g2⟩ | ⟨rfl, rfl, rfl⟩
    · exact absurd f1 foot_gone
    · rw [hLo _ g1] at f1
      exact .inl ⟨s1, j1, c1, by simp, g2, f1⟩
    · rw [hLt] at f1
      rcases hf b i f1 with h | h
      · exact .inl ⟨s, j, _, by simp, hj, h⟩
      · exact .inr h
  · intro s1 h1 h3
    simp only [List.mem_cons, List.not_mem_nil, or_false] at h1
    rcases h1 with rfl | rfl
    · rw [hRs] at h3
      have : ((R s1).set j .gone).length = 0 := by rw [h3]; rfl
      simp at this
      rw [this] at hjlt
      simp at hjlt
    · rw [hRt] at h3; cases h3
end
end Go.Proofs.Am

set_option autoImplicit false
set_option linter.unusedVariables false
set_option linter.unusedSimpArgs false
namespace Go.Proofs.Am
open Go.RowKit

section
variable {P : Program} {tab : Tab} (ht : TabOk P tab) {m : Mem} {L : Locs} {w : World} {st : St} {a : Act} {o : Oper}

def notInt (d : TypeDesc) : Prop := (∃ e, d = .slice e) ∨ d = .string

theorem append_room_run {T Tx ty e : TypeId} {dx : TypeDesc} {i : TInfo} (hu : P.underlying T = some (.slice e)) (hi : tab.find e = some i) (ht : TabOk P tab) (hx : P.underlying Tx = some dx) (hdx : notInt dx) {vy : Value} {b off n c ny : Nat} {news : List Value} {w' : World}
    (hlen : (Builtin.lenOf vy).run P w = .ok ny w) (hf : (Builtin.firstCells i.size ny vy).run P w = .ok news.toArray w) (hroom : n + ny ≤ c) (hst : (storeCells ⟨b, off + n * i.size, none⟩ news).run P w = .ok () w') :
    (Builtin.append_ #[T, Tx] ty #[.slice (some ⟨b, off, none⟩) n c, vy]).run P w = .ok (.slice (some ⟨b, off, none⟩) (n + ny) c) w' := by
  simp only [Builtin.append_]
  rcases hdx with ⟨e2, rfl⟩ | rfl <;> simp [run_under hu, run_sizeOf' ht hi, run_under hx, hlen, hf, hroom, addr_add, hst]

theorem append_empty_run {T Tx ty e : TypeId} {dx : TypeDesc} {i : TInfo} (hu : P.underlying T = some (.slice e)) (hi : tab.find e = some i) (ht : TabOk P tab) (hx : P.underlying Tx = some dx) (hdx : notInt dx) {vy : Value} {news : List Value}
    (hlen : (Builtin.lenOf vy).run P w = .ok 0 w) (hf : (Builtin.firstCells i.size 0 vy).run P w = .ok news.toArray w) :
    (Builtin.append_ #[T, Tx] ty #[.slice none 0 0, vy]).run P w = .ok (.slice none 0 0) w := by
  simp only [Builtin.append_]
  rcases hdx with ⟨e2, rfl⟩ | rfl <;> simp [run_under hu, run_sizeOf' ht hi, run_under hx, hlen, hf]

theorem append_grow_run {T Tx ty e : TypeId} {dx : TypeDesc} {i : TInfo} {ti : TypeInfo} {z : Value} (hu : P.underlying T = some (.slice e)) (hi : tab.find e = some i) (ht : TabOk P tab) (hti : P.info? e = some ti) (hb : ti.bytes = i.bytes)
    (hzr : ∀ w, (zeroValue e).run P w = .ok z w) (hx : P.underlying Tx = some dx) (hdx : notInt dx) {vy : Value} {A : Option Addr} {n c ny : Nat} {olds news : List Value}
    (hlen : (Builtin.lenOf vy).run P w = .ok ny w) (hf : (Builtin.firstCells i.size ny vy).run P w.drew = .ok news.toArray w.drew)
    (ho : (Builtin.firstCells i.size n (.slice A n c)).run P w.drew = .ok olds.toArray w.drew) (hroom : c < n + ny) (hfit : (n + ny) * i.bytes ≤ 140737488355328) (h0 : i.bytes ≠ 0) :
    (Builtin.append_ #[T, Tx] ty #[.slice A n c, vy]).run P w = .ok (.slice (some ⟨w.heap.size, 0, none⟩) (n + ny) (grownCap w (n + ny) c e))
      (w.drew.alloc (.cells ((olds ++ news).toArray ++ Builtin.zeroCells z.cells (grownCap w (n + ny) c e - (n + ny))) e)) := by
  have hnr : ¬ (n + ny ≤ c) := by omega
  have hg := growslice_fits hroom hfit
  have hg' : ¬ (281474976710656 < Builtin.nextslicecap (n + ny) c * i.bytes) := by omega
  have hbt : ∀ w, (typeInfo e).run P w = .ok ti w := fun w => by simp [typeInfo, hti]
  simp only [Builtin.append_]
  rcases hdx with ⟨e2, rfl⟩ | rfl
  all_goals
    simp [run_under hu, run_sizeOf' ht hi, run_under hx, hlen, hnr, hbt, hb, h0, hg', Question.forced, newRow]
    simp [ho, hf, hzr, grownCap, hbt]
    have hcat : (olds ++ news).toArray = olds.toArray ++ news.toArray := by simp
    rw [hcat, Array.append_assoc]


/-- Cells beyond the end of an owned row are filled. -/
theorem evo_fill {b e lim : Nat} {news : List Value} (ha : Agree m w) (hblk : ∃ cs E fr, w.heap[b]? = some (.cells cs E fr) ∧ lim ≤ cs.size) (hm : ∀ j, e ≤ j → j < lim → m b j = none) (hle : e + news.length ≤ lim) :
    Evo (foot (.tok (some (b, e, lim))) .tok) w m (w.setCells b e news) (fun b' j => if b' = b ∧ e ≤ j ∧ j < e + news.length then news[j - e]? else m b' j) := by
  obtain ⟨cs, E, fr, hh, hlim⟩ := hblk
  have hb : b < w.heap.size := (Array.getElem?_eq_some_iff.1 hh).1
  have hcell : ∀ j, j < news.length → (w.cell? ⟨b, e + j, none⟩).isSome = true := by
    intro j hj
    simp only [World.cell?, hh]
    simp
    omega
  have h1 := evo_setCells (F := foot (.tok (some (b, e, lim))) .tok) (vs := news) ha hb hcell (fun j hj => hm _ (by omega) (by omega)) (fun j hj => ⟨rfl, by omega, by omega⟩) ⟨cs, E, fr, hh⟩
  refine ⟨h1.size, h1.os, h1.tape, h1.output, ?_, ?_, ?_, h1.same⟩
  · intro b' j v h
    dsimp only
    rw [if_neg]
    · exact h
    · rintro ⟨rfl, h2, h3⟩
      rw [hm j h2 (by omega)] at h; cases h
  · intro b' j v h
    dsimp only at h
    split at h
    · rename_i hc
      obtain ⟨rfl, h2, h3⟩ := hc
      have := World.cell?_setCells_in b' news e w hcell (j - e) (by omega)
      rw [show e + (j - e) = j by omega] at this
      rw [this, ← List.getElem?_eq_getElem]
      exact h
    · exact h1.agree b' j v h
  · intro b' j h h'
    split at h
    · rename_i hc
      obtain ⟨rfl, h2, h3⟩ := hc
      exact .inl ⟨rfl, h2, by omega⟩
    · exact absurd h' h

/-- A token is gone. -/
theorem did_gone {w' : World} {m' : Mem} {L' : Locs} {R : Nat → List Cont} {s j site : Nat} (ha : Agree m w) (hr : ResAt m L w R) (hj : (R s)[j]? = some .tok) (hsite : R site = [])
    (h : Did [site] R (putRes R [site] [[.tok]]) w m L w' m' L') : Did [s, site] R (putRes R [s, site] [(R s).set j .gone, [.tok]]) w m L w' m' L' := by
  have hne : s ≠ site := by rintro rfl; rw [hsite] at hj; simp at hj
  have hR := h.res ha hr
  have hjlt : j < (R s).length := by
    rcases Nat.lt_or_ge j (R s).length with h | h
    · exact h
    · rw [List.getElem?_eq_none h] at hj; cases hj
  have h1s : putRes R [site] [[.tok]] s = R s := by simp only [putRes]; rw [setF_other _ _ hne]
  have hRs : putRes R [s, site] [(R s).set j .gone, [.tok]] s = (R s).set j .gone := by simp [putRes]
  have hRt : ∀ s', s' ≠ s → putRes R [s, site] [(R s).set j .gone, [.tok]] s' = putRes R [site] [[.tok]] s' := fun s' h => by simp only [putRes]; rw [setF_other _ _ h]
  have hgs : ∀ (s' j' : Nat) (c' : Cont), (putRes R [s, site] [(R s).set j .gone, [.tok]] s')[j']? = some c' → c' = Cont.gone ∨ (putRes R [site] [[.tok]] s')[j']? = some c' := by
    intro s' j' c0 h
    by_cases hs' : s' = s
    · subst hs'
      rw [hRs] at h
      by_cases he : j' = j
      · subst he
        rw [List.getElem?_set_self hjlt] at h
        exact .inl (Option.some.inj h).symm
      · rw [List.getElem?_set_ne (Ne.symm he)] at h
        exact .inr (by rw [h1s]; exact h)
    · rw [hRt s' hs'] at h
      exact .inr h
  refine ⟨h.evo.weaken ?_, h.keep, ?_, ?_, ?_, ?_, ?_⟩
  · rintro b i ⟨s', j', c, hs', h1, h2⟩
    exact ⟨s', j', c, by simp at hs'; simp [hs'], h1, h2⟩
  · intro s' hs'
    simp only [List.mem_cons, List.not_mem_nil, or_false, not_or] at hs'
    rw [hRt s' hs'.1]
    exact h.out s' (by simpa using hs'.2)
  · intro s' j' c hs' h1
    rcases hgs _ _ _ h1 with rfl | h2
    · trivial
    · exact hR.at_ _ _ _ h2
  · intro s1 j1 c1 s2 j2 c2 _ _ h1 h2 hne' b i f1 f2
    rcases hgs _ _ _ h1 with rfl | g1
    · exact foot_gone f1
    · rcases hgs _ _ _ h2 with rfl | g2
      · exact foot_gone f2
      · exact hR.apart _ _ _ _ _ _ g1 g2 hne' b i f1 f2
  · intro s1 j1 c1 hs1 h1 b i f1
    rcases hgs _ _ _ h1 with rfl | g1
    · exact absurd f1 foot_gone
    · simp only [List.mem_cons, List.not_mem_nil, or_false] at hs1
      rcases hs1 with rfl | rfl
      · rw [h1s] at g1
        rw [(h.out s1 (by simpa using hne)).2] at f1
        exact .inl ⟨s1, j1, c1, by simp, g1, f1⟩
      · rcases h.foot s1 j1 c1 (by simp) g1 b i f1 with ⟨s', j', c, hs', h3, h4⟩ | h3
        · exact .inl ⟨s', j', c, by simp at hs'; simp [hs'], h3, h4⟩
        · exact .inr h3
  · intro s1 hs1 h1
    simp only [List.mem_cons, List.not_mem_nil, or_false] at hs1
    rcases hs1 with rfl | rfl
    · rw [hRs] at h1
      have : ((R s1).set j .gone).length = 0 := by rw [h1]; rfl
      simp at this
      rw [this] at hjlt
      simp at hjlt
    · rw [hRt s1 (Ne.symm hne)] at h1
      simp [putRes] at h1

theorem lim_le {n bytes : Nat} (h : n ≤ lim bytes) : n ≤ maxStr := by
  unfold lim at h
  have := Nat.div_le_self 140737488355328 bytes
  unfold maxStr; omega

theorem set_newer {s j k b o n sz lim k' b' o' n' sz' lim' : Nat} (hl : L s j = .arr k b o n sz lim) (hk : k < k') : L.le (L.set s j (.arr k' b' o' n' sz' lim')) := by
  intro s' j' hne
  by_cases he : s' = s ∧ j' = j
  · obtain ⟨rfl, rfl⟩ := he
    exact .inr (.inr ⟨k, b, o, n, sz, lim, k', b', o', n', sz', lim', hl, by simp [Locs.set], hk⟩)
  · exact .inl (by simp [Locs.set, he])

/-- An append to a list that may be written to. -/
theorem appendArr_ok {T Tx e ty : TypeId} {dx : TypeDesc} {i : TInfo} {t : Ty} (ht : TabOk P tab) (hs : Sim m L st a w) (hu : P.underlying T = some (.slice e)) (hi : tab.find e = some i) (hfit : fits i t = true) (hb0 : i.bytes ≠ 0) (hs0 : i.size ≠ 0) (hz0 : i.zero.length = i.size)
    (hx : P.underlying Tx = some dx) (hdx : notInt dx) {s j k : Nat} {ys : List t.den} {vx vy : Value} {ny : Nat} {news : List Value} {cf : Nat → List Value} (hxr : ARep m L (.ms s j k) vx) (hsrc : Src P m w t ys vy ny news cf)
    (hexec : ∀ v' w', (Builtin.append_ #[T, Tx] ty #[vx, vy]).run P w = .ok v' w' → (execOp a.eval o).run P w = .ok (.value v') w') : OpOk P o a w m L st (appendArr i.bytes t s j k ys) := by
  obtain ⟨hsz, hag⟩ := fits_size hfit
  have ht0 : t.size ≠ 0 := hsz ▸ hs0
  obtain ⟨ti, d, z, h1, h2, h3, h4, h5, h6, h7⟩ := tinfo_parts ht hi
  have hz' : ∀ w, (zeroValue e).run P w = .ok z w := fun w => by simp [zeroValue, typeInfo, h1, h3]
  have hzs : z.cells.size = t.size := by
    rw [← hsz, ← hz0, ← h7]; simp
  have hlen := hsrc.len
  have hf := hsrc.first w hs.agree
  rw [← hsz] at hf
  intro v fs hrun next Q hn
  simp only [appendArr, onArr, List.map_cons, List.map_nil] at hrun
  split at hrun
  · rename_i k' t' xs hj
    cases hk : Nat.beq k k' with
    | false => simp [hk] at hrun
    | true =>
      have hkk := Nat.eq_of_beq_eq_true hk
      subst hkk
      simp only [hk, cond_true, Tree.run_bind, Option.bind_eq_some_iff] at hrun
      obtain ⟨⟨v0, c0⟩, hrun, hrun2⟩ := hrun
      simp only [Tree.run_leaf, Option.some.injEq, Prod.mk.injEq] at hrun2
      obtain ⟨rfl, rfl⟩ := hrun2
      split at hrun
      · rename_i hty _
        subst hty
        simp only [Tree.run_guard, Tree.run_leaf] at hrun
        cases hg : decide (xs.length + ys.length ≤ lim i.bytes) with
        | false => simp [hg] at hrun
        | true =>
          simp only [hg, cond_true, Option.some.injEq, Prod.mk.injEq] at hrun
          obtain ⟨rfl, rfl⟩ := hrun
          have hle : xs.length + ys.length ≤ lim i.bytes := of_decide_eq_true hg
          have hny := hsrc.many
          have hcont := hs.res.at_ s j _ hj
          obtain ⟨b, o0, lm, hl, hz0', hmax, hfit', hb', hcs0, hfree, hcell⟩ := arr_cells hcont
          obtain ⟨A, c, rfl, hnc, hcl, hA⟩ := ms_at hxr hl
          have hmul : (xs.length + ny) * t'.size = xs.length * t'.size + ny * t'.size := Nat.add_mul _ _ _
          by_cases hny0 : ny = 0
          · subst hny0
            have hys : ys = [] := List.eq_nil_of_length_eq_zero hny
            subst hys
            have hn0 : news = [] := List.eq_nil_of_length_eq_zero (by rw [hsrc.cells, Nat.zero_mul])
            subst hn0
            have hrunA : (Builtin.append_ #[T, Tx] ty #[.slice A xs.length c, vy]).run P w = .ok (.slice A xs.length c) w := by
              rcases hA with rfl | ⟨rfl, h0, rfl⟩
              · exact append_room_run (w' := w) hu hi ht hx hdx hlen hf (by omega) rfl
              · rw [h0]
                exact append_empty_run hu hi ht hx hdx hlen hf
            rw [hexec _ _ hrunA]
            simp only [List.append_nil] at hn
            refine hn _ _ m (L.set s j (.arr (k + 1) b o0 xs.length t'.size lm)) (.ms s j (k + 1) _ (by simp [Locs.set]) rfl (fun k2 b2 o2 n2 sz2 lm2 he => ?_)) (did_move hs.agree hs.res hj (Evo.refl hs.agree) (set_newer hl (Nat.lt_succ_self k)) ?_ ?_)
            · simp only [Locs.set, and_self, if_true] at he
              cases he
              exact ⟨Nat.le_refl _, fun _ => ⟨A, c, rfl, hnc, hcl, hA⟩⟩
            · obtain ⟨b2, o2, l2, e2, hrest⟩ := hcont
              rw [hl] at e2
              cases e2
              exact ⟨_, _, _, rfl, hrest⟩
            · intro b' i' hf'
              rw [hl]
              exact .inl hf'
          by_cases hroom : xs.length + ny ≤ c
          · have hpos : o0 < lm := by
              have := Nat.mul_le_mul_right t'.size (show 1 ≤ c by omega)
              have := Nat.pos_of_ne_zero hz0'
              omega
            have hb := hb' hpos
            obtain ⟨cs0, E, fr, hh, hlim⟩ := hcs0 hpos
            obtain ⟨_, _, h0⟩ | rfl := hA.symm
            · omega
            have hnews := hsrc.cells
            have hroom' : o0 + xs.length * t'.size + news.length ≤ lm := by
              have := Nat.mul_le_mul_right t'.size hroom
              omega
            have hin : ∀ q, q < news.length → o0 ≤ o0 + xs.length * t'.size + q ∧ o0 + xs.length * t'.size + q < lm := fun q hq => ⟨by omega, by omega⟩
            have hst : (storeCells ⟨b, o0 + xs.length * i.size, none⟩ news).run P w = .ok () (w.setCells b (o0 + xs.length * t'.size) news) := by
              rw [hsz]
              have := run_storeCells_cells (P := P) b (o0 + xs.length * t'.size) news 0 w (fun q hq => by
                  rw [Nat.add_zero]; exact (hfree _ (hin q hq).1 (hin q hq).2).1)
                (fun q hq => by rw [Nat.add_zero]; exact (hfree _ (hin q hq).1 (hin q hq).2).2.1) hsrc.one
              rw [Nat.add_zero] at this
              exact this
            rw [hexec _ _ (append_room_run hu hi ht hx hdx hlen hf hroom hst)]
            have hevo : Evo (foot (L s j) (.arr k t' xs)) w m (w.setCells b (o0 + xs.length * t'.size) news) m :=
              evo_setCells hs.agree hb (fun q hq => (hfree _ (hin q hq).1 (hin q hq).2).1) (fun q hq => (hfree _ (hin q hq).1 (hin q hq).2).2.2) (fun q hq => by rw [hl]; exact ⟨rfl, (hin q hq).1, (hin q hq).2⟩) ⟨cs0, E, fr, hh⟩
            obtain ⟨cs1, g1, g2, g3⟩ := setCells_block b news (o0 + xs.length * t'.size) w cs0 E fr hh
            refine hn _ _ m (L.set s j (.arr (k + 1) b o0 (xs.length + ny) t'.size lm)) (.ms s j (k + 1) _ (by simp [Locs.set]) rfl (fun k2 b2 o2 n2 sz2 lm2 he => ?_)) (did_move hs.agree hs.res hj hevo (set_newer hl (Nat.lt_succ_self k)) ?_ ?_)
            · simp only [Locs.set, and_self, if_true] at he
              cases he
              exact ⟨Nat.le_refl _, fun _ => ⟨_, c, rfl, hroom, hcl, .inl rfl⟩⟩
            · refine arr_mk (by simp [hny]) rfl hz0' (by simpa using lim_le hle) (by rw [List.length_append, hny]; have := Nat.mul_le_mul_right t'.size hroom; omega) g1 (by omega) (fun q h1 h2 => ⟨by rw [World.frozen?_setCells]; exact (hfree q h1 h2).2.1, (hfree q h1 h2).2.2⟩) (fun q hq => ?_)
              by_cases hqn : q < xs.length
              · obtain ⟨c1, d1, d2⟩ := hcell q hqn
                refine ⟨c1, by rw [List.getElem_append_left hqn]; exact d1, fun u hu => ?_⟩
                rw [World.cell?_setCells_out]
                · exact d2 u hu
                · intro _ _
                  simp only
                  have := Nat.mul_le_mul_right t'.size (show q + 1 ≤ xs.length by omega)
                  rw [Nat.add_mul] at this
                  omega
              · have hq2 : q - xs.length < ys.length := by simp at hq; omega
                have hq3 : q - xs.length < ny := by omega
                refine ⟨cf (q - xs.length), by rw [List.getElem_append_right (by omega)]; exact hsrc.rep _ hq2, fun u hu => ?_⟩
                have hqe : q * t'.size = xs.length * t'.size + (q - xs.length) * t'.size := by rw [← Nat.add_mul]; congr 1; omega
                have hlt : (q - xs.length) * t'.size + u < news.length := by
                  have := Nat.mul_le_mul_right t'.size (show q - xs.length + 1 ≤ ny by omega)
                  rw [Nat.add_mul] at this
                  omega
                have := World.cell?_setCells_in b news (o0 + xs.length * t'.size) w (fun q hq => (hfree _ (hin q hq).1 (hin q hq).2).1) ((q - xs.length) * t'.size + u) hlt
                rw [show o0 + xs.length * t'.size + ((q - xs.length) * t'.size + u) = o0 + q * t'.size + u by omega] at this
                rw [this, ← (hsrc.get _ hq3).2 u hu, List.getElem?_eq_getElem hlt]
            · intro b' i' hf'
              rw [hl]
              exact .inl hf'
          · let mp : Mem := fun b' q => match m b' q with | some v => some v | none => if b' = b ∧ o0 ≤ q ∧ q < lm then w.cell? ⟨b', q, none⟩ else none
            have hmple : m.le mp := by intro b' q v h; show (match m b' q with | some v => some v | none => _) = some v; rw [h]
            have hmpc : ∀ q, o0 ≤ q → q < lm → mp b q = w.cell? ⟨b, q, none⟩ := by
              intro q h1 h2
              show (match m b q with | some v => some v | none => if b = b ∧ o0 ≤ q ∧ q < lm then w.cell? ⟨b, q, none⟩ else none) = _
              rw [(hfree q h1 h2).2.2]
              simp [h1, h2]
            have hmpa : ∀ b' q v, mp b' q = some v → w.cell? ⟨b', q, none⟩ = some v := by
              intro b' q v h
              have h' : (match m b' q with | some v => some v | none => if b' = b ∧ o0 ≤ q ∧ q < lm then w.cell? ⟨b', q, none⟩ else none) = some v := h
              split at h'
              · rename_i v2 hv2
                cases h'
                exact hs.agree _ _ _ hv2
              · split at h'
                · exact h'
                · cases h'
            have hrep := arr_list hcont hl hmple hmpc hnc hA
            obtain ⟨olds', cf', hsx⟩ := src_list (P := P) (w := w) ht0 hrep
            have ho : (Builtin.firstCells i.size xs.length (.slice A xs.length c)).run P w.drew = .ok olds'.toArray w.drew := by rw [hsz]; exact hsx.first w.drew hmpa
            have hfw : (Builtin.firstCells i.size ny vy).run P w.drew = .ok news.toArray w.drew := by rw [hsz]; exact hsrc.first w.drew hs.agree
            have hle' : xs.length + ny ≤ lim i.bytes := by rw [hny] at hle; exact hle
            have happ := append_grow_run (ty := ty) hu hi ht h1 h6 hz' hx hdx hlen hfw ho (by omega) (lim_mul hle') hb0
            obtain ⟨cap, hcap⟩ : ∃ cap, cap = grownCap w (xs.length + ny) c e := ⟨_, rfl⟩
            rw [← hcap] at happ
            have hcapn : xs.length + ny ≤ cap := by rw [hcap]; simp [grownCap, Question.cut]
            rw [hexec _ _ happ]
            have hrest : (Builtin.zeroCells z.cells (cap - (xs.length + ny))).size = (cap - (xs.length + ny)) * t'.size := by simp [Builtin.zeroCells, hzs]
            have hrowl : (olds' ++ news).length = (xs.length + ny) * t'.size := by rw [List.length_append, hsx.cells, hsrc.cells, Nat.add_mul]
            have hsize : ((olds' ++ news).toArray ++ Builtin.zeroCells z.cells (cap - (xs.length + ny))).size = cap * t'.size := by
              rw [Array.size_append, hrest, List.size_toArray, hrowl, ← Nat.add_mul]
              congr 1; omega
            have hevo : Evo (fun _ _ => False) w m (w.drew.alloc (.cells ((olds' ++ news).toArray ++ Builtin.zeroCells z.cells (cap - (xs.length + ny))) e)) m := by
              have h1 : Evo (fun _ _ => False) w m w.drew m := evo_drew hs.agree _
              exact h1.trans (evo_new (o := .cells ((olds' ++ news).toArray ++ Builtin.zeroCells z.cells (cap - (xs.length + ny))) e) h1.agree) fun _ _ h => .inl h
            have hnb : (w.drew.alloc (.cells ((olds' ++ news).toArray ++ Builtin.zeroCells z.cells (cap - (xs.length + ny))) e)).heap[w.heap.size]? = some (.cells ((olds' ++ news).toArray ++ Builtin.zeroCells z.cells (cap - (xs.length + ny))) e (0, 0)) := by
              show (w.heap.push _)[w.heap.size]? = _
              simp
            have hnc' : ∀ q, q < (xs.length + ny) * t'.size → (w.drew.alloc (.cells ((olds' ++ news).toArray ++ Builtin.zeroCells z.cells (cap - (xs.length + ny))) e)).cell? ⟨w.heap.size, q, none⟩ = (olds' ++ news)[q]? := by
              intro q hq
              simp only [World.cell?, hnb]
              rw [Array.getElem?_append_left (by simp only [List.size_toArray]; omega)]
              simp
            have hget := get_append hsx.cells hsx.get hsrc.get
            have hrepa := rep_append (xs := xs) (ys := ys) rfl (fun i hi => hsx.rep i hi) (fun i hi => (hsrc.rep i hi).mono hmple)
            refine hn _ _ m (L.set s j (.arr (k + 1) w.heap.size 0 (xs.length + ny) t'.size (cap * t'.size))) (.ms s j (k + 1) _ (by simp [Locs.set]) rfl (fun k2 b2 o2 n2 sz2 lm2 he => ?_)) (did_move hs.agree hs.res hj (hevo.weaken fun _ _ h => h.elim) (set_newer hl (Nat.lt_succ_self k)) ?_ ?_)
            · simp only [Locs.set, and_self, if_true] at he
              cases he
              exact ⟨Nat.le_refl _, fun _ => ⟨_, cap, rfl, hcapn, by omega, .inl rfl⟩⟩
            · refine arr_mk (by simp [hny]) rfl hz0' (by simpa using lim_le hle) (by rw [List.length_append, hny, Nat.zero_add]; exact Nat.mul_le_mul_right _ hcapn) hnb (by rw [hsize]; exact Nat.le_refl _) (fun q h1 h2 => ⟨by simp only [World.frozen?]; rw [hnb]; simp, mem_lt hs.agree (Nat.le_refl _)⟩) (fun q hq => ?_)
              have hq' : q < xs.length + ny := by rw [← hny]; simpa using hq
              obtain ⟨hg1, hg2⟩ := hget q hq'
              have hnew : RepC m t' (if q < xs.length then cf' q else cf (q - xs.length)) (xs ++ ys)[q] := by
                by_cases hqn : q < xs.length
                · rw [if_pos hqn, List.getElem_append_left hqn]
                  obtain ⟨c1, d1, d2⟩ := hcell q hqn
                  have : cf' q = c1 := by
                    refine List.ext_getElem? fun u => ?_
                    by_cases hu : u < t'.size
                    · rw [← (hsx.get q hqn).2 u hu, ← d2 u hu]
                      have hlt : q * t'.size + u < xs.length * t'.size := by
                        have := Nat.mul_le_mul_right t'.size (show q + 1 ≤ xs.length by omega)
                        rw [Nat.add_mul] at this
                        omega
                      have hA' : A = some ⟨b, o0, none⟩ := by
                        rcases hA with h | ⟨_, h, _⟩
                        · exact h
                        · omega
                      have h1 := hsx.first w hmpa
                      rw [hA'] at h1
                      have h2 : (Builtin.firstCells t'.size xs.length (.slice (some ⟨b, o0, none⟩) xs.length c)).run P w = .ok ((List.range (xs.length * t'.size)).map fun u => (w.cell? ⟨b, o0 + u, none⟩).getD undef).toArray w := by
                        refine run_firstCells_some w t'.size xs.length _ xs.length c _ (by simp) fun u v hv => ?_
                        rw [addr_add]
                        rw [List.getElem?_map] at hv
                        have hul : u < xs.length * t'.size := by
                          rcases Nat.lt_or_ge u (xs.length * t'.size) with h | h
                          · exact h
                          · rw [List.getElem?_eq_none (by simpa using h)] at hv; cases hv
                        rw [List.getElem?_range hul] at hv
                        simp only [Option.map_some, Option.some.injEq] at hv
                        have := (hfree (o0 + u) (by omega) (by omega)).1
                        rw [Option.isSome_iff_exists] at this
                        obtain ⟨v2, hv2⟩ := this
                        rw [hv2] at hv ⊢
                        simpa using hv
                      rw [h1] at h2
                      simp only [Result.ok.injEq, and_true] at h2
                      have h2 := congrArg Array.toList h2
                      simp only at h2
                      rw [h2, List.getElem?_map, List.getElem?_range hlt]
                      have := (hfree (o0 + (q * t'.size + u)) (by omega) (by omega)).1
                      rw [Option.isSome_iff_exists] at this
                      obtain ⟨v2, hv2⟩ := this
                      simp only [Option.map_some, hv2, Option.getD_some]
                      rw [← Nat.add_assoc] at hv2
                      rw [hv2]
                    · rw [List.getElem?_eq_none (by rw [(hsx.get q hqn).1]; omega), List.getElem?_eq_none (by rw [d1.length]; omega)]
                  rw [this]; exact d1
                · rw [if_neg hqn, List.getElem_append_right (by omega)]
                  exact hsrc.rep _ (by omega)
              refine ⟨_, hnew, fun u hu => ?_⟩
              have hlt : q * t'.size + u < (xs.length + ny) * t'.size := by
                have := Nat.mul_le_mul_right t'.size (show q + 1 ≤ xs.length + ny by omega)
                rw [Nat.add_mul] at this
                omega
              rw [Nat.zero_add, hnc' _ hlt]
              exact hg2 u hu
            · intro b' i' hf'
              obtain ⟨rfl, _, _⟩ := hf'
              exact .inr (Nat.le_refl _)
      · simp at hrun
  · simp at hrun

/-- What an append leaves, whatever room there was. -/
theorem append_core {T Tx e ty : TypeId} {dx : TypeDesc} {i : TInfo} {t : Ty} (ht : TabOk P tab) (hs : Sim m L st a w) (hu : P.underlying T = some (.slice e)) (hi : tab.find e = some i) (hfit : fits i t = true) (hb0 : i.bytes ≠ 0) (hs0 : i.size ≠ 0) (hz0 : i.zero.length = i.size)
    (hx : P.underlying Tx = some dx) (hdx : notInt dx) {site : Nat} {x : AV} {ys : List t.den} {vx vy : Value} {ny : Nat} {news : List Value} {cf : Nat → List Value} (hxr : ARep m L x vx) (hsrc : Src P m w t ys vy ny news cf)
    (hexec : ∀ v' w', (Builtin.append_ #[T, Tx] ty #[vx, vy]).run P w = .ok v' w' → (execOp a.eval o).run P w = .ok (.value v') w') : OpOk P o a w m L st (appendReq i.bytes site t x ys) := by
  obtain ⟨hsz, hag⟩ := fits_size hfit
  have ht0 : t.size ≠ 0 := hsz ▸ hs0
  obtain ⟨ti, d, z, h1, h2, h3, h4, h5, h6, h7⟩ := tinfo_parts ht hi
  have hz' : ∀ w, (zeroValue e).run P w = .ok z w := fun w => by simp [zeroValue, typeInfo, h1, h3]
  have hzs : z.cells.size = t.size := by
    rw [← hsz, ← hz0, ← h7]; simp
  have hlen := hsrc.len
  have hf := hsrc.first w hs.agree
  rw [← hsz] at hf
  have hrest : ∀ k, (Builtin.zeroCells z.cells k).size = k * t.size := fun k => by simp [Builtin.zeroCells, hzs]
  by_cases hms : ∃ s j k, x = .ms s j k
  · obtain ⟨s, j, k, rfl⟩ := hms
    exact appendArr_ok ht hs hu hi hfit hb0 hs0 hz0 hx hdx hxr hsrc hexec
  intro v fs hrun next Q hn
  cases x <;> (simp only [appendReq] at hrun hn ⊢) <;> try (simp [Req.fail, Req.pure] at hrun; done)
  case ms s j k => exact absurd ⟨s, j, k, rfl⟩ hms
  case nil =>
    cases hxr
    simp only [List.map_cons, List.map_nil] at hrun
    split at hrun
    · rename_i hsite
      simp only [List.cons.injEq, and_true] at hsite
      simp only [Tree.run_guard, Tree.run_leaf] at hrun
      cases hg : decide (ys.length ≤ lim i.bytes) with
      | false => simp [hg] at hrun
      | true =>
        simp only [hg, cond_true, Option.some.injEq, Prod.mk.injEq] at hrun
        obtain ⟨rfl, rfl⟩ := hrun
        have hle : ys.length ≤ lim i.bytes := of_decide_eq_true hg
        have hny := hsrc.many
        rcases Nat.eq_zero_or_pos ny with h0 | h0
        · subst h0
          have hys : ys = [] := List.eq_nil_of_length_eq_zero hny
          subst hys
          rw [hexec _ _ (append_empty_run hu hi ht hx hdx hlen hf)]
          refine hn _ w m (L.set site 0 (.tok none)) (.own t _ site 0 none 0 0 (.nil _ _ _) (.inr ⟨none, by simp [Locs.set], rfl, rfl, rfl⟩)) ?_
          exact did_single hs.res hsite (.refl hs.agree) ⟨none, rfl, fun _ _ _ h => by cases h⟩ (fun b i h => h.elim)
        · have hfw : (Builtin.firstCells i.size ny vy).run P w.drew = .ok news.toArray w.drew := by rw [hsz]; exact hsrc.first w.drew hs.agree
          have ho : (Builtin.firstCells i.size 0 (.slice none 0 0)).run P w.drew = .ok ([] : List Value).toArray w.drew := by simp [Builtin.firstCells]
          have := append_grow_run (ty := ty) hu hi ht h1 h6 hz' hx hdx hlen hfw ho (by omega) (by rw [Nat.zero_add, ← hny]; exact lim_mul hle) hb0
          rw [hexec _ _ this]
          obtain ⟨m', L', hv, hd⟩ := grown_did (w0 := w.drew) (E := e) (cap := grownCap w (0 + ny) 0 e) (row := [] ++ news) (rest := Builtin.zeroCells z.cells (grownCap w (0 + ny) 0 e - (0 + ny))) rfl hs.res hs.agree hsite (n := 0 + ny) (by rw [hny, Nat.zero_add])
            (by rw [Nat.zero_add, ← hny]; exact lim_le hle) (by simp [grownCap, Question.cut]) (by simpa using hsrc.cells) (hrest _) (by simpa using hsrc.get) hsrc.rep
          exact hn _ _ _ _ hv hd
    · simp at hrun
  case own t' xs s j =>
    cases hxr with
    | own _ _ _ _ A n c hrep hloc =>
    cases hsm : t'.same t with
    | none => simp [hsm, Req.fail, Req.pure] at hrun
    | some hty' =>
      obtain ⟨hty⟩ := hty'
      subst hty
      simp only [hsm, List.map_cons, List.map_nil] at hrun hn
      split at hrun
      · rename_i f heq
        simp only [List.cons.injEq, and_true] at heq
        obtain ⟨rfl, hsite⟩ := heq
        split at hrun
        · rename_i hj
          simp only [Tree.run_guard, Tree.run_leaf] at hrun
          cases hg : decide (xs.length + ys.length ≤ lim i.bytes) with
          | false => simp [hg] at hrun
          | true =>
            simp only [hg, cond_true, Option.some.injEq, Prod.mk.injEq] at hrun
            obtain ⟨rfl, rfl⟩ := hrun
            have hle : xs.length + ys.length ≤ lim i.bytes := of_decide_eq_true hg
            have hny := hsrc.many
            have hn' : xs.length = n := (list_len hrep).1
            obtain ⟨r, hL, htokc⟩ := hs.res.at_ s j _ hj
            have htok : TokAt r t'.size A n c := by
              rcases hloc with h | ⟨r', h, h'⟩
              · rw [hL] at h; cases h
              · rw [hL] at h; cases h; exact h'
            obtain ⟨olds, cf0, ho1, ho2, ho3, ho4, ho5⟩ := list_cells ht0 hrep
            by_cases hroom : n + ny ≤ c
            · match r, htok with
              | none, ⟨hA, hn0, hc0⟩ =>
                subst hA; subst hn0; subst hc0
                have h0 : ny = 0 := by omega
                subst h0
                have hys : ys = [] := List.eq_nil_of_length_eq_zero hny
                have hxs : xs = [] := List.eq_nil_of_length_eq_zero hn'
                subst hys; subst hxs
                rw [hexec _ _ (append_empty_run hu hi ht hx hdx hlen hf)]
                refine hn _ w m ((L.set s j .dead).set site 0 (.tok none)) (.own t' _ site 0 none 0 0 (.nil _ _ _) (.inr ⟨none, by simp [Locs.set], rfl, rfl, rfl⟩)) ?_
                exact did_append hs.agree hs.res hj hL hsite (.refl hs.agree) ⟨none, rfl, fun _ _ _ h => by cases h⟩ (fun b i h => h.elim)
              | some (b, e', lim'), ⟨off, hA, he', hcl, hnc⟩ =>
                subst hA
                obtain ⟨cs, E, fr, hh, hlim, hfree⟩ := htokc b e' lim' rfl
                have hb : b < w.heap.size := (Array.getElem?_eq_some_iff.1 hh).1
                have hnews := hsrc.cells
                have hroom' : e' + news.length ≤ lim' := by
                  have := Nat.mul_le_mul_right t'.size hroom
                  rw [Nat.add_mul] at this
                  omega
                have hst : (storeCells ⟨b, off + n * i.size, none⟩ news).run P w = .ok () (w.setCells b e' news) := by
                  rw [hsz, ← he']
                  have := run_storeCells_cells (P := P) b e' news 0 w (fun k hk => by
                      rw [Nat.add_zero]
                      simp only [World.cell?, hh]
                      simp; omega)
                    (fun k hk => by
                      rw [Nat.add_zero]
                      simp only [World.frozen?, hh]
                      have := (hfree (e' + k) (by omega) (by omega)).2
                      simp; omega) hsrc.one
                  rw [Nat.add_zero] at this
                  exact this
                rw [hexec _ _ (append_room_run hu hi ht hx hdx hlen hf hroom hst)]
                have hevo := evo_fill (news := news) hs.agree ⟨cs, E, fr, hh, hlim⟩ (fun j h1 h2 => (hfree j h1 h2).1) hroom'
                obtain ⟨m1, hm1⟩ : ∃ m1 : Mem, m1 = fun b' j => if b' = b ∧ e' ≤ j ∧ j < e' + news.length then news[j - e']? else m b' j := ⟨_, rfl⟩
                rw [← hm1] at hevo
                have hmem : ∀ k, k < (n + ny) * t'.size → m1 b (off + k) = (olds ++ news)[k]? := by
                  intro k hk
                  rw [Nat.add_mul] at hk
                  rw [hm1]
                  dsimp only
                  by_cases hkn : k < n * t'.size
                  · rw [if_neg (by omega), List.getElem?_append_left (by omega)]
                    rcases ho5 with h0 | ⟨b0, off0, h1, h2⟩
                    · rw [h0] at hkn; simp at hkn
                    · cases h1; exact h2 k hkn
                  · rw [if_pos ⟨rfl, by omega, by omega⟩, List.getElem?_append_right (by omega)]
                    congr 1; omega
                have hget := get_append (ny := ny) ho1 ho3 hsrc.get
                refine hn _ _ m1 ((L.set s j .dead).set site 0 (.tok (some (b, e' + news.length, lim')))) (.own t' _ site 0 _ (n + ny) c ?_ (.inr ⟨some (b, e' + news.length, lim'), by simp [Locs.set], off, rfl, by rw [hnews, Nat.add_mul]; omega, hcl, hroom⟩)) ?_
                · refine .list t' b off (n + ny) c (xs ++ ys) (fun i => if i < n then cf0 i else cf (i - n)) (by rw [List.length_append, hn', hny]) (lim_le (by rw [hn', hny] at hle; exact hle)) hroom (fun i hi => ⟨(hget i hi).1, fun q hq => ?_⟩) (fun i hi => ?_)
                  · rw [← (hget i hi).2 q hq, ← hmem, Nat.add_assoc]
                    calc i * t'.size + q < i * t'.size + t'.size := by omega
                      _ = (i + 1) * t'.size := by rw [Nat.succ_mul]
                      _ ≤ (n + ny) * t'.size := Nat.mul_le_mul_right _ (by omega)
                  · exact (rep_append hn' ho4 hsrc.rep i hi).mono hevo.le
                · refine did_append hs.agree hs.res hj hL hsite (by rw [hL]; exact hevo) ⟨_, rfl, fun b1 e1 l1 h => ?_⟩ (fun b1 i1 h => ?_)
                  · simp only [Option.some.injEq, Prod.mk.injEq] at h
                    obtain ⟨rfl, rfl, rfl⟩ := h
                    obtain ⟨cs', g1, g2, g3⟩ := setCells_block b news e' w cs E fr hh
                    refine ⟨cs', E, fr, g1, by omega, fun q h1 h2 => ⟨?_, (hfree q (by omega) h2).2⟩⟩
                    rw [hm1]
                    dsimp only
                    rw [if_neg (by omega)]
                    exact (hfree q (by omega) h2).1
                  · rw [hL]
                    obtain ⟨h1, h2, h3⟩ := h
                    exact .inl ⟨h1, by omega, h3⟩
            · obtain ⟨olds', cf', hsx⟩ := src_list (P := P) (w := w) ht0 hrep
              have ho : (Builtin.firstCells i.size n (.slice A n c)).run P w.drew = .ok olds'.toArray w.drew := by rw [hsz]; exact hsx.first w.drew hs.agree
              have hfw : (Builtin.firstCells i.size ny vy).run P w.drew = .ok news.toArray w.drew := by rw [hsz]; exact hsrc.first w.drew hs.agree
              have hle' : n + ny ≤ lim i.bytes := by rw [hn', hny] at hle; exact hle
              have := append_grow_run (ty := ty) hu hi ht h1 h6 hz' hx hdx hlen hfw ho (by omega) (lim_mul hle') hb0
              rw [hexec _ _ this]
              obtain ⟨m', L', hv, hd⟩ := grown_did (w0 := w.drew) (E := e) (cap := grownCap w (n + ny) c e) (row := olds' ++ news) (rest := Builtin.zeroCells z.cells (grownCap w (n + ny) c e - (n + ny))) rfl hs.res hs.agree hsite (n := n + ny) (by rw [List.length_append, hn', hny])
                (lim_le hle') (by simp [grownCap, Question.cut]) (by rw [List.length_append, hsx.cells, hsrc.cells, Nat.add_mul]) (hrest _) (get_append hsx.cells hsx.get hsrc.get) (rep_append hn' hsx.rep hsrc.rep)
              exact hn _ _ _ _ hv (did_gone hs.agree hs.res hj hsite hd)
        · simp at hrun
      · simp at hrun
end
end Go.Proofs.Am

set_option autoImplicit false
set_option linter.unusedVariables false
set_option linter.unusedSimpArgs false
namespace Go.Proofs.Am
open Go.RowKit

/-! ## Maps -/
def KeyOk : Ty → TypeDesc → Prop
  | .int _, .int _ => True
  | .str, .string => True
  | .bool, .bool => True
  | _, _ => False

section
variable {P : Program} {tab : Tab} (ht : TabOk P tab) {m : Mem}

theorem repV_int {k : IntKind} {x : Int} {v : Value} (h : RepV m (.int k) x v) : v = .int k x ∧ inRange k x := by
  rcases h with ⟨_, h⟩ | ⟨h, _⟩
  · cases h; exact ⟨rfl, by assumption⟩
  · cases h
theorem repV_bool {x : Bool} {v : Value} (h : RepV m .bool x v) : v = .bool x := by
  rcases h with ⟨_, h⟩ | ⟨h, _⟩
  · cases h; rfl
  · cases h
theorem repV_str {x : List UInt8} {v : Value} (h : RepV m .str x v) : ∃ s : ByteArray, v = .string s ∧ s.data.toList = x ∧ s.size ≤ maxStr := by
  rcases h with ⟨_, h⟩ | ⟨h, _⟩
  · cases h; exact ⟨_, rfl, by assumption, by assumption⟩
  · cases h

theorem beq_bytes {a b : ByteArray} {x y : List UInt8} (ha : a.data.toList = x) (hb : b.data.toList = y) : (a == b) = (x == y) := by
  rw [beq_toListBytes, ByteArray.toList_eq, ByteArray.toList_eq, ha, hb]

theorem same_now {kt : Ty} {dk : TypeDesc} (hk : KeyOk kt dk) {x y : kt.den} {vx vy : Value} (hx : RepV m kt x vx) (hy : RepV m kt y vy) : Instr.sameNow dk vx vy = some (keyEqB kt x y) := by
  cases kt <;> cases dk <;> simp only [KeyOk] at hk
  case int.int k q =>
    obtain ⟨rfl, _⟩ := repV_int hx
    obtain ⟨rfl, _⟩ := repV_int hy
    simp [Instr.sameNow, keyEqB]
  case bool.bool =>
    have := repV_bool hx
    have := repV_bool hy
    subst_vars
    simp [Instr.sameNow, keyEqB]
  case str.string =>
    obtain ⟨a, rfl, ha, _⟩ := repV_str hx
    obtain ⟨b, rfl, hb, _⟩ := repV_str hy
    simp only [Instr.sameNow, keyEqB]
    exact congrArg some (beq_bytes ha hb)

theorem key_stays {dk : TypeDesc} {a b : Value} (h : Instr.sameNow dk b a = some true) (w : World) : (Instr.keyThatStays a b).run P w = .ok b w := by
  have : Instr.sameBits 10000 a b = true := by
    unfold Instr.sameNow at h
    split at h
    · split at h
      · rename_i hk
        subst hk
        simp at h
        subst h
        simp [Instr.sameBits]
      · cases h
    · rename_i x y
      simp only [Option.some.injEq] at h
      have hxy : x = y := by
        rw [beq_toListBytes, ByteArray.toList_eq, ByteArray.toList_eq] at h
        have := eq_of_beq h
        obtain ⟨⟨x⟩⟩ := x
        obtain ⟨⟨y⟩⟩ := y
        simpa using this
      subst hxy
      have hr : (x == x) = true := h
      unfold Instr.sameBits
      exact hr
    · simp at h; subst h; simp [Instr.sameBits]
    · cases h
  simp [Instr.keyThatStays, this]

theorem check_key {kt : Ty} {dk : TypeDesc} (hk : KeyOk kt dk) {K : TypeId} (hu : P.underlying K = some dk) (e : Bool) (v : Value) (w : World) : (Instr.checkKey e 10000 K v).run P w = .ok () w := by
  have key : ∀ n, (Instr.checkKey e (n + 1) K v).run P w = .ok () w := by
    intro n
    cases kt <;> cases dk <;> simp only [KeyOk] at hk <;> simp [Instr.checkKey, run_underlying hu]
  exact key 9999

/-- Entry by entry. -/
def ERep (m : Mem) (k v : Ty) : List (k.den × v.den) → List MapEntry → Prop
  | [], [] => True
  | e :: es, f :: fs => (RepV m k e.1 f.key ∧ RepV m v e.2 f.val) ∧ ERep m k v es fs
  | _, _ => False

theorem mapRep_of {k v : Ty} : ∀ {es : List (k.den × v.den)} {fs : List MapEntry}, ERep m k v es fs → ∀ {A : Array MapEntry}, A.toList = fs → MapRep m k v es A := by
  intro es fs h A hA
  have key : ∀ {es : List (k.den × v.den)} {fs : List MapEntry}, ERep m k v es fs → fs.length = es.length ∧ ∀ (i : Nat) (hi : i < es.length) (hc : i < fs.length), RepV m k es[i].1 fs[i].key ∧ RepV m v es[i].2 fs[i].val := by
    intro es
    induction es with
    | nil =>
      intro fs h
      cases fs with
      | nil => exact ⟨rfl, fun i hi => absurd hi (by simp)⟩
      | cons _ _ => exact h.elim
    | cons e es ih =>
      intro fs h
      cases fs with
      | nil => exact h.elim
      | cons f fs =>
        obtain ⟨h1, h2⟩ := ih h.2
        refine ⟨by simp [h1], fun i hi hc => ?_⟩
        cases i with
        | zero => exact h.1
        | succ i => exact h2 i (by simpa using hi) (by simpa using hc)
  obtain ⟨h1, h2⟩ := key h
  subst hA
  exact ⟨by simpa using h1, fun i hi hc => h2 i hi (by simpa using hc)⟩

theorem mapRep_to {k v : Ty} {es : List (k.den × v.den)} {A : Array MapEntry} (h : MapRep m k v es A) : ERep m k v es A.toList := by
  have key : ∀ {es : List (k.den × v.den)} {fs : List MapEntry}, (fs.length = es.length ∧ ∀ (i : Nat) (hi : i < es.length) (hc : i < fs.length), RepV m k es[i].1 fs[i].key ∧ RepV m v es[i].2 fs[i].val) → ERep m k v es fs := by
    intro es
    induction es with
    | nil =>
      rintro fs ⟨h, _⟩
      cases fs with
      | nil => trivial
      | cons _ _ => simp at h
    | cons e es ih =>
      rintro fs ⟨h, h2⟩
      cases fs with
      | nil => simp at h
      | cons f fs =>
        exact ⟨h2 0 (by simp) (by simp), ih ⟨by simpa using h, fun i hi hc => h2 (i + 1) (by simpa using hi) (by simpa using hc)⟩⟩
  exact key ⟨by simpa using h.1, fun i hi hc => by simpa using h.2 i hi (by simpa using hc)⟩

theorem find_rep {kt vt : Ty} {dk : TypeDesc} (hk : KeyOk kt dk) {key : kt.den} {vk : Value} (hx : RepV m kt key vk) : ∀ {es : List (kt.den × vt.den)} {fs : List MapEntry} {i : Nat}, ERep m kt vt es fs →
    (∃ j f x, Instr.findNow dk vk fs i = some (some (i + j, f.val)) ∧ mapFind kt vt key es = some x ∧ RepV m vt x f.val ∧ fs[j]? = some f ∧ Instr.sameNow dk vk f.key = some true ∧
      ∀ (y : vt.den) (nv : Value), RepV m vt y nv → ERep m kt vt (mapPut kt vt key y es) (fs.modify j fun e => { e with key := vk, val := nv })) ∨
    (Instr.findNow dk vk fs i = some none ∧ mapFind kt vt key es = none ∧ ∀ (y : vt.den) (nv : Value) (b : Nat), RepV m vt y nv → ERep m kt vt (mapPut kt vt key y es) (fs ++ [{ key := vk, val := nv, born := b }])) := by
  intro es
  induction es with
  | nil =>
    intro fs i h
    cases fs with
    | nil => exact .inr ⟨rfl, rfl, fun y nv b hy => ⟨⟨hx, hy⟩, trivial⟩⟩
    | cons _ _ => exact h.elim
  | cons e es ih =>
    intro fs i h
    cases fs with
    | nil => exact h.elim
    | cons f fs =>
      obtain ⟨⟨hkey, hval⟩, hrest⟩ := h
      have hs := same_now hk hx hkey
      cases hb : keyEqB kt key e.1 with
      | true =>
        rw [hb] at hs
        refine .inl ⟨0, f, e.2, by simp [Instr.findNow, hs], by simp [mapFind, hb], hval, rfl, hs, fun y nv hy => ?_⟩
        simp only [mapPut, hb, cond_true, List.modify_zero_cons]
        exact ⟨⟨hx, hy⟩, hrest⟩
      | false =>
        rw [hb] at hs
        rcases ih (i := i + 1) hrest with ⟨j, f', x, h1, h2, h3, h4, h5, h6⟩ | ⟨h1, h2, h3⟩
        · refine .inl ⟨j + 1, f', x, ?_, by simp [mapFind, hb, h2], h3, by simpa using h4, h5, fun y nv hy => ?_⟩
          · simp only [Instr.findNow, hs, h1]; congr 3; omega
          · simp only [mapPut, hb, cond_false, List.modify_succ_cons]
            exact ⟨⟨hkey, hval⟩, h6 y nv hy⟩
        · refine .inr ⟨by simp only [Instr.findNow, hs, h1], by simp [mapFind, hb, h2], fun y nv b hy => ?_⟩
          simp only [mapPut, hb, cond_false, List.cons_append]
          exact ⟨⟨hkey, hval⟩, h3 y nv b hy⟩

theorem run_find {kt vt : Ty} {dk : TypeDesc} {K : TypeId} (hu : P.underlying K = some dk) {vk : Value} {fs : List MapEntry} {r : Option (Nat × Value)} (h : Instr.findNow dk vk fs 0 = some r) (w : World) :
    (Instr.findKey K vk fs).run P w = .ok r w := by
  simp [Instr.findKey, run_underlying hu, h]

include ht in
theorem mapInfo_some {T : TypeId} {mi : MI} (h : mapInfo tab T = some mi) : ∃ K E dk, P.underlying T = some (.map K E) ∧ P.underlying K = some dk ∧ KeyOk mi.k dk ∧
    ∃ z, (∀ w, (zeroValue E).run P w = .ok z w) ∧ ∀ m, RepV m mi.v mi.zero z := by
  unfold mapInfo at h
  split at h
  · rename_i K E sz by_ zr ty teq hT
    split at h
    · rename_i ki ei hK hE
      split at h
      · rename_i kt vt hkt hvt
        split at h
        · rename_i z0 hkd hz0
          simp only [Option.some.injEq] at h
          subst h
          obtain ⟨dk, hdk, hdesc⟩ := under_of ht hK
          refine ⟨K, E, dk, under_map ht hT rfl, hdk, ?_, ?_⟩
          · dsimp only
            rw [← hdesc] at hkd
            simp only [Bool.and_eq_true] at hkd
            have hkd := hkd.1.1
            cases kt <;> cases dk <;> simp [keyDesc, descOf] at hkd <;> trivial
          · dsimp only
            obtain ⟨ti, d, z, h1, h2, h3, h4, h5, h6, h7⟩ := tinfo_parts ht hE
            refine ⟨z, fun w => by simp [zeroValue, typeInfo, h1, h3], fun m => ?_⟩
            obtain ⟨ti', z', g1, g2, g3, g4⟩ := tinfo_agg ht hE
            rw [h1] at g1; cases g1
            rw [h3] at g2; cases g2
            have hrel : ReL m (fun _ _ => .no) ei.zero z.cells.toList := zero_rep h7
            simp only [Bool.and_eq_true, Bool.or_eq_true] at hkd
            have hone := flats_rep hrel hkd.1.2
            have hrep : ARep m (fun _ _ => .no) (zeroAV ei) z := by
              unfold zeroAV
              cases hag : ei.agg with
              | true =>
                simp only [cond_true]
                rw [hag] at g4
                cases z <;> simp [aggV] at g4
                rename_i cs
                obtain ⟨cs⟩ := cs
                exact .st _ cs hrel.1 hone hrel.2
              | false =>
                simp only [cond_false]
                have hl : ei.zero.length = 1 := by
                  rcases hkd.2 with h | h
                  · rw [hag] at h; cases h
                  · exact Nat.eq_of_beq_eq_true h
                rw [hag] at g4
                have hz1 : z.cells.toList = [z] := by cases z <;> first | rfl | (simp [aggV] at g4)
                rw [hz1] at hrel
                match hzz : ei.zero, hl with
                | [x], _ =>
                  rw [hzz] at hrel
                  exact hrel.2 0 (by simp) (by simp)
            have := castTo_rep hrep hz0
            rcases this.data with ⟨ha, h⟩ | ⟨ha, cs, e, h⟩
            · exact .inl ⟨ha, h⟩
            · exact .inr ⟨ha, cs, e, h⟩
        · cases h
      · cases h
    · cases h
  · cases h

variable {L : Locs} {w : World} {st : St} {a : Act} {o : Oper}

include ht in
theorem makeMap_ok (hs : Sim m L st a w) {T : TypeId} (ho : o.op = .makeMap T none) (env : Env) : OpOk P o a w m L st (reqOf tab env o st) := by
  have hreq : reqOf tab env o st = makeMapReq tab T (o.dst.getD 0) := by unfold reqOf; simp only [ho]
  rw [hreq]
  unfold makeMapReq
  split
  · rename_i mi hmi
    intro v fs hrun next Q hn
    obtain ⟨hsite, rfl, rfl⟩ := single_run hrun
    have hexec : (execOp a.eval o).run P w = .ok (.value (.map (some w.heap.size))) { w with heap := w.heap.push (.map #[] 0) } := by
      simp [execOp, ho, Instr.makeMap, newObj, Sem.run]
    rw [hexec]
    refine hn _ _ m (L.set (o.dst.getD 0) 0 (.map w.heap.size)) (.mref _ _ w.heap.size (by simp [Locs.set])) (did_single hs.res hsite (evo_new hs.agree) ?_ ?_)
    · exact ⟨w.heap.size, rfl, #[], 0, by simp, mapRep_of (fs := []) (by simp [ERep]) rfl⟩
    · intro b i hf
      simp only [foot] at hf
      omega
  · exact failOk

theorem look_rep {v : Ty} {zero : v.den} {z : Value} (hz : RepV m v zero z) {r : Option v.den} {rv : Value × Bool} (h : match r with | some x => RepV m v x rv.1 ∧ rv.2 = true | none => rv = (z, false)) (ok : Bool) :
    ARep m L (lookRes zero r ok) (if ok then .tuple #[rv.1, .bool rv.2] else rv.1) := by
  have h1 : ARep m L (.d v (r.getD zero)) rv.1 := by
    cases r with
    | some x => exact h.1.rep
    | none => dsimp only at h; rw [h]; exact hz.rep
  have h2 : rv.2 = r.isSome := by
    cases r with
    | some x => exact h.2
    | none => dsimp only at h; rw [h]; rfl
  cases ok with
  | true =>
    simp only [lookRes, cond_true, if_true]
    refine .tup _ [rv.1, .bool rv.2] rfl fun i hi hc => ?_
    match i, hi with
    | 0, _ => exact h1
    | 1, _ => simp only [List.getElem_cons_succ, List.getElem_cons_zero]; rw [h2]; exact .d1 _ _ _ rfl (.bool _)
  | false => simpa [lookRes] using h1

include ht in
theorem lookup_ok (hs : Sim m L st a w) {T : TypeId} {x i : Operand} {ok : Bool} (ho : o.op = .lookup T x i ok) (env : Env) : OpOk P o a w m L st (reqOf tab env o st) := by
  have hx := hs.eval x
  have hi := hs.eval i
  have hreq : reqOf tab env o st = lookupReq tab T (evalO st x) (evalO st i) ok := by unfold reqOf; simp only [ho]
  rw [hreq]
  unfold lookupReq
  split
  · exact failOk
  · rename_i mi hmi
    obtain ⟨K, E, dk, hT, hK, hkok, z, hz, hzr⟩ := mapInfo_some ht hmi
    split
    · exact failOk
    · rename_i key hkey
      have hkv : RepV m mi.k key (a.eval i) := by
        rcases (castTo_rep hi hkey).data with ⟨ha, h⟩ | ⟨ha, cs, e, h⟩
        · exact .inl ⟨ha, h⟩
        · exact .inr ⟨ha, cs, e, h⟩
      split
      · rename_i he
        rw [he] at hx
        generalize hev : a.eval x = vx at hx
        cases hx
        refine pureOk hs fun v hv => ?_
        simp only [Tree.run_leaf, Option.some.injEq] at hv
        subst hv
        refine ⟨_, look_rep (hzr m) (r := none) (rv := (z, false)) rfl ok, ?_⟩
        have hf := run_find (P := P) (kt := mi.k) (vt := mi.v) (vk := a.eval i) (fs := []) (r := none) hK rfl w
        simp [execOp, ho, hev, Instr.lookup, run_underlying hT, check_key hkok hK, hf, hz]
      · rename_i s j he
        rw [he] at hx
        intro v fs hrun next Q hn
        simp only [List.map_cons, List.map_nil] at hrun
        split at hrun
        · rename_i k0 v0 es hj
          split at hrun
          · rename_i h1 h2 _ _
            subst h1
            subst h2
            simp only [Tree.run_leaf, Option.some.injEq, Prod.mk.injEq] at hrun
            obtain ⟨rfl, rfl⟩ := hrun
            obtain ⟨r, hl, ents, clock, hb, hmr⟩ := hs.res.at_ s j _ hj
            generalize hev : a.eval x = vx at hx
            cases hx with
            | mref _ _ r' hl' =>
            rw [hl] at hl'
            cases hl'
            rcases find_rep hkok hkv (i := 0) (mapRep_to hmr) with ⟨jx, f, y, g1, g2, g3, g4, g5, g6⟩ | ⟨g1, g2, g3⟩
            · rw [Nat.zero_add] at g1
              have hrf := run_find (P := P) (kt := mi.k) (vt := mi.v) hK g1 w
              have hex : (execOp a.eval o).run P w = .ok (.value (if ok then .tuple #[f.val, .bool true] else f.val)) w := by
                simp [execOp, ho, hev, Instr.lookup, run_underlying hT, MapKept.run_getObj_map hb, check_key hkok hK, hrf]
              rw [hex]
              refine hn _ w m L ?_ (read_did hs)
              rw [g2]
              exact look_rep (hzr m) (r := some y) (rv := (f.val, true)) ⟨g3, rfl⟩ ok
            · have hrf := run_find (P := P) (kt := mi.k) (vt := mi.v) hK g1 w
              have hex : (execOp a.eval o).run P w = .ok (.value (if ok then .tuple #[z, .bool false] else z)) w := by
                simp [execOp, ho, hev, Instr.lookup, run_underlying hT, MapKept.run_getObj_map hb, check_key hkok hK, hrf, hz]
              rw [hex]
              refine hn _ w m L ?_ (read_did hs)
              rw [g2]
              exact look_rep (hzr m) (r := none) (rv := (z, false)) rfl ok
          · simp at hrun
        · simp at hrun
      · exact failOk

theorem evo_setMap {r : Nat} {ents ents' : Array MapEntry} {c c' : Nat} (ha : Agree m w) (hb : w.heap[r]? = some (.map ents c)) : Evo (fun b _ => b = r) w m { w with heap := w.heap.setIfInBounds r (.map ents' c') } m where
  size := by simp
  os := rfl
  tape := rfl
  output := rfl
  le := m.le_refl
  agree b j v h := by
    have h := ha b j v h
    unfold World.cell? at h ⊢
    by_cases hbr : b = r
    · subst hbr
      simp only [hb] at h
      cases h
    · simp only [Array.getElem?_setIfInBounds_ne (Ne.symm hbr)]
      exact h
  new b j h h' := absurd h' h
  same b hlt := by
    by_cases hbr : b = r
    · subst hbr
      refine .inr (.inr ⟨fun _ => rfl, _, .map ents' c', hb, ?_, rfl, rfl⟩)
      simp [hlt]
    · exact .inl (by simp only [Array.getElem?_setIfInBounds_ne (Ne.symm hbr)])

include ht in
theorem update_ok (hs : Sim m L st a w) {T : TypeId} {x i y : Operand} (ho : o.op = .mapUpdate T x i y ∨ o.op = .insert T x i y) : OpOk P o a w m L st (updateReq tab T (evalO st x) (evalO st i) (evalO st y)) := by
  have hx := hs.eval x
  have hi := hs.eval i
  have hy := hs.eval y
  unfold updateReq
  split
  · exact failOk
  · rename_i mi hmi
    obtain ⟨K, E, dk, hT, hK, hkok, z, hz, hzr⟩ := mapInfo_some ht hmi
    split
    · rename_i key val hkey hval
      have hkv : RepV m mi.k key (a.eval i) := by
        rcases (castTo_rep hi hkey).data with ⟨ha, h⟩ | ⟨ha, cs, e, h⟩
        · exact .inl ⟨ha, h⟩
        · exact .inr ⟨ha, cs, e, h⟩
      have hvv : RepV m mi.v val (a.eval y) := by
        rcases (castTo_rep hy hval).data with ⟨ha, h⟩ | ⟨ha, cs, e, h⟩
        · exact .inl ⟨ha, h⟩
        · exact .inr ⟨ha, cs, e, h⟩
      split
      · rename_i s j he
        rw [he] at hx
        intro v fs hrun next Q hn
        simp only [List.map_cons, List.map_nil] at hrun
        split at hrun
        · rename_i k0 v0 es hj
          split at hrun
          · rename_i h1 h2 _ _
            subst h1
            subst h2
            simp only [Tree.run_leaf, Option.some.injEq, Prod.mk.injEq] at hrun
            obtain ⟨rfl, rfl⟩ := hrun
            obtain ⟨r, hl, ents, clock, hb, hmr⟩ := hs.res.at_ s j _ hj
            generalize hev : a.eval x = vx at hx
            cases hx with
            | mref _ _ r' hl' =>
            have hl2 := hl'
            rw [hl] at hl2
            cases hl2
            have hexec : ∀ w', (Instr.mapUpdate T (.map (some r)) (a.eval i) (a.eval y)).run P w = .ok () w' → (execOp a.eval o).run P w = .ok .skip w' := by
              intro w' h
              rcases ho with ho | ho <;> simp [execOp, ho, hev, h]
            have hevo : ∀ ents' c', Evo (foot (L s j) (.map mi.k mi.v es)) w m { w with heap := w.heap.setIfInBounds r (.map ents' c') } m := by
              intro ents' c'
              rw [hl]
              exact evo_setMap hs.agree hb
            have hlt : r < w.heap.size := by
              rcases Nat.lt_or_ge r w.heap.size with h | h
              · exact h
              · rw [Array.getElem?_eq_none h] at hb; cases hb
            rcases find_rep hkok hkv (i := 0) (mapRep_to hmr) with ⟨jx, f, y', g1, g2, g3, g4, g5, g6⟩ | ⟨g1, g2, g3⟩
            · rw [Nat.zero_add] at g1
              have hents : ents[jx]? = some f := by simpa using g4
              have hrf := run_find (P := P) (kt := mi.k) (vt := mi.v) hK g1 w
              rw [hexec _ (by simp [Instr.mapUpdate, run_underlying hT, MapKept.run_getObj_map hb, check_key hkok hK, hrf, hents, key_stays g5, MapKept.run_setObj_map _ hb]; rfl)]
              refine hn _ _ m L .undef (did_set hs.agree hs.res hj (hevo _ _) ?_ ?_)
              · exact ⟨r, hl, ents.modify jx fun e => { e with key := a.eval i, val := a.eval y }, clock, by simp [hlt], mapRep_of (g6 val (a.eval y) hvv) (by simp [Array.toList_modify])⟩
              · intro b i hf; rw [hl] at hf ⊢; exact hf
            · have hrf := run_find (P := P) (kt := mi.k) (vt := mi.v) hK g1 w
              rw [hexec _ (by simp [Instr.mapUpdate, run_underlying hT, MapKept.run_getObj_map hb, check_key hkok hK, hrf, MapKept.run_setObj_map _ hb]; rfl)]
              refine hn _ _ m L .undef (did_set hs.agree hs.res hj (hevo _ _) ?_ ?_)
              · exact ⟨r, hl, ents.push { key := a.eval i, val := a.eval y, born := clock }, clock + 1, by simp [hlt], mapRep_of (g3 val (a.eval y) clock hvv) (by simp)⟩
              · intro b i hf; rw [hl] at hf ⊢; exact hf
          · simp at hrun
        · simp at hrun
      · exact failOk
    · exact failOk
end
end Go.Proofs.Am
