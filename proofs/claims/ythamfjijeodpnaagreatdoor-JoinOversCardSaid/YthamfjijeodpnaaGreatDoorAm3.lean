import Derived.Test.YthamfjijeodpnaaGreatDoorAm2
import Derived.Orders
set_option linter.unusedSectionVars false
set_option linter.unusedVariables false
set_option linter.unusedSimpArgs false
set_option autoImplicit false
set_option linter.unusedVariables false
set_option linter.unusedSimpArgs false
namespace Go.Proofs.Am
open Go.RowKit

/-! ## Structs and arrays held against each other -/
section
variable {P : Program} {tab : Tab} (ht : TabOk P tab) {m : Mem}

theorem repV_of {L : Locs} {t : Ty} {x : t.den} {v : Value} (h : ARep m L (.d t x) v) : RepV m t x v := by
  rcases h.data with ⟨ha, h⟩ | ⟨ha, cs, e, h⟩
  · exact .inl ⟨ha, h⟩
  · exact .inr ⟨ha, cs, e, h⟩

def EqRun (P : Program) (n : Nat) (T : TypeId) (t : Ty) : Prop := ∀ (m : Mem) (w : World) (x y : t.den) (vx vy : Value), RepV m t x vx → RepV m t y vy → (Op.equalIn n T vx vy).run P w = .ok (eqD t x y) w

include ht in
theorem eqFs_run {d : Nat} {f : TypeId → Option Ty} (hf : ∀ T t, f T = some t → EqRun P d T t) : ∀ {fs : List Field} {off : Nat} {t : Ty}, eqFs tab f fs off = some t → ∀ (w : World) (p1 p2 c1 c2 : List Value) (x y : t.den), p1.length = off → p2.length = off →
    RepC m t c1 x → RepC m t c2 y → (Op.eqFields d ⟨p1 ++ c1⟩ ⟨p2 ++ c2⟩ fs).run P w = .ok (eqD t x y) w := by
  intro fs
  induction fs with
  | nil => intro off t h; cases h
  | cons g gs ih =>
    intro off t h w p1 p2 c1 c2 x y h1 h2 r1 r2
    simp only [eqFs] at h
    split at h
    · rename_i i t0 hi ht0
      cases hb : (g.name != "_" && Nat.beq g.offset off && fits i t0) with
      | false => simp [hb] at h
      | true =>
        simp only [hb, cond_true] at h
        simp only [Bool.and_eq_true] at hb
        obtain ⟨⟨hn, ho⟩, hfit⟩ := hb
        have ho := Nat.eq_of_beq_eq_true ho
        have hn : g.name ≠ "_" := by simpa using hn
        split at h
        · simp only [Option.some.injEq] at h
          subst h
          obtain ⟨v1, a1, e1⟩ := part_run (P := P) (m := m) (L := fun _ _ => .no) (w := w) (c1 := p1) (c3 := []) hi hfit r1 ht
          obtain ⟨v2, a2, e2⟩ := part_run (P := P) (m := m) (L := fun _ _ => .no) (w := w) (c1 := p2) (c3 := []) hi hfit r2 ht
          rw [List.append_nil, h1, ← ho] at e1
          rw [List.append_nil, h2, ← ho] at e2
          have e3 := hf _ _ ht0 m w x y v1 v2 (repV_of a1) (repV_of a2)
          simp only [Op.eqFields, ne_eq, hn, not_false_eq_true, if_true, Sem.run_bind, e1, e2, e3, Result.andThen_ok, Sem.run_ite, Sem.run_pure]
          cases eqD t0 x y <;> simp
        · simp only [Option.map_eq_some_iff] at h
          obtain ⟨t1, hrest, rfl⟩ := h
          cases r1 with
          | cons _ _ ca cb xa xb ra rb =>
          cases r2 with
          | cons _ _ da db ya yb sa sb =>
          obtain ⟨v1, a1, e1⟩ := part_run (P := P) (m := m) (L := fun _ _ => .no) (w := w) (c1 := p1) (c3 := cb) hi hfit ra ht
          obtain ⟨v2, a2, e2⟩ := part_run (P := P) (m := m) (L := fun _ _ => .no) (w := w) (c1 := p2) (c3 := db) hi hfit sa ht
          rw [List.append_assoc, h1, ← ho] at e1
          rw [List.append_assoc, h2, ← ho] at e2
          have e3 := hf _ _ ht0 m w xa ya v1 v2 (repV_of a1) (repV_of a2)
          have e4 := ih hrest w (p1 ++ ca) (p2 ++ da) cb db xb yb (by simp [h1, ra.length]) (by simp [h2, sa.length]) rb sb
          rw [List.append_assoc, List.append_assoc] at e4
          simp only [Op.eqFields, ne_eq, hn, not_false_eq_true, if_true, Sem.run_bind, e1, e2, e3, Result.andThen_ok, Sem.run_ite, Sem.run_pure, eqD]
          cases eqD t0 xa ya
          · simp
          · simpa using e4
    · cases h

include ht in
theorem eqItems_run {d : Nat} {e : TypeId} {i : TInfo} {t : Ty} (hi : tab.find e = some i) (hfit : fits i t = true) (hf : EqRun P d e t) : ∀ {n : Nat} {k : Nat} {tt : Ty}, consN t n = some tt → ∀ (w : World) (p1 p2 c1 c2 : List Value) (x y : tt.den), p1.length = k * t.size → p2.length = k * t.size →
    RepC m tt c1 x → RepC m tt c2 y → (Op.eqItems d e (P.cellsOf e) ⟨p1 ++ c1⟩ ⟨p2 ++ c2⟩ (List.range' k n)).run P w = .ok (eqD tt x y) w := by
  have hce : P.cellsOf e = t.size := by
    obtain ⟨ti, h1, h2, _⟩ := info_of ht hi
    simp [Program.cellsOf, h1, h2, (fits_size hfit).1]
  intro n
  induction n with
  | zero => intro k tt h; cases h
  | succ n ih =>
    intro k tt h w p1 p2 c1 c2 x y h1 h2 r1 r2
    cases n with
    | zero =>
      have h : some t = some tt := h
      simp only [Option.some.injEq] at h
      subst h
      obtain ⟨v1, a1, e1⟩ := part_run (P := P) (m := m) (L := fun _ _ => .no) (w := w) (c1 := p1) (c3 := []) hi hfit r1 ht
      obtain ⟨v2, a2, e2⟩ := part_run (P := P) (m := m) (L := fun _ _ => .no) (w := w) (c1 := p2) (c3 := []) hi hfit r2 ht
      rw [List.append_nil, h1, ← hce] at e1
      rw [List.append_nil, h2, ← hce] at e2
      have e3 := hf m w x y v1 v2 (repV_of a1) (repV_of a2)
      simp only [List.range'_succ, List.range'_zero, Op.eqItems, Sem.run_bind, e1, e2, e3, Result.andThen_ok, Sem.run_ite, Sem.run_pure]
      cases eqD t x y <;> simp
    | succ n =>
      simp only [consN, Option.map_eq_some_iff] at h
      obtain ⟨t1, hrest, rfl⟩ := h
      cases r1 with
      | cons _ _ ca cb xa xb ra rb =>
      cases r2 with
      | cons _ _ da db ya yb sa sb =>
      obtain ⟨v1, a1, e1⟩ := part_run (P := P) (m := m) (L := fun _ _ => .no) (w := w) (c1 := p1) (c3 := cb) hi hfit ra ht
      obtain ⟨v2, a2, e2⟩ := part_run (P := P) (m := m) (L := fun _ _ => .no) (w := w) (c1 := p2) (c3 := db) hi hfit sa ht
      rw [List.append_assoc, h1, ← hce] at e1
      rw [List.append_assoc, h2, ← hce] at e2
      have e3 := hf m w xa ya v1 v2 (repV_of a1) (repV_of a2)
      have e4 := ih (k := k + 1) hrest w (p1 ++ ca) (p2 ++ da) cb db xb yb (by simp [h1, ra.length, Nat.add_mul]) (by simp [h2, sa.length, Nat.add_mul]) rb sb
      rw [List.append_assoc, List.append_assoc] at e4
      rw [List.range'_succ]
      simp only [Op.eqItems, Sem.run_bind, e1, e2, e3, Result.andThen_ok, Sem.run_ite, Sem.run_pure, eqD]
      cases eqD t xa ya
      · simp
      · simpa using e4

include ht in
theorem eqTy_run : ∀ {d : Nat} {T : TypeId} {t : Ty}, eqTy P tab d T = some t → ∀ n, EqRun P (n + d) T t := by
  intro d
  induction d with
  | zero => intro T t h; cases h
  | succ d ih =>
    intro T t h n m w x y vx vy hx hy
    simp only [eqTy] at h
    rw [← Nat.add_assoc]
    split at h
    · rename_i hu
      simp only [Option.some.injEq] at h
      subst h
      have := repV_bool hx
      have := repV_bool hy
      subst_vars
      exact run_equalIn_bool w (n + d) T _ _ hu
    · rename_i k hu
      simp only [Option.some.injEq] at h
      subst h
      obtain ⟨rfl, _⟩ := repV_int hx
      obtain ⟨rfl, _⟩ := repV_int hy
      exact run_equalIn_int w (n + d) T _ _ _ _ hu
    · rename_i hu
      simp only [Option.some.injEq] at h
      subst h
      obtain ⟨a, rfl, ha, _⟩ := repV_str hx
      obtain ⟨b, rfl, hb, _⟩ := repV_str hy
      rw [run_equalIn_string w (n + d) T _ _ hu]
      congr 1
      rw [ByteArray.toList_eq, ByteArray.toList_eq, ha, hb]
      rfl
    · rename_i fs hu
      cases hs : P.stoodInHeld T with
      | true => simp [hs] at h
      | false =>
        simp only [hs, cond_false, Option.map_eq_some_iff] at h
        obtain ⟨tt, h, rfl⟩ := h
        rcases hx with ⟨hx, _⟩ | ⟨_, c1, rfl, hx⟩
        · cases hx
        rcases hy with ⟨hy, _⟩ | ⟨_, c2, rfl, hy⟩
        · cases hy
        have hfo : P.fieldsOf T = fs := by simp [Program.fieldsOf, hu]
        rw [run_equalIn_struct w (n + d) T _ _ (by rw [hfo]; exact hu) hs, hfo]
        cases hx with
        | st _ _ _ hx =>
        cases hy with
        | st _ _ _ hy =>
        exact eqFs_run ht (fun T t h => ih h n) h w [] [] c1 c2 x y rfl rfl hx hy
    · rename_i k e hu
      split at h
      · rename_i i t0 hi ht0
        cases hfit : fits i t0 with
        | false => simp [hfit] at h
        | true =>
          simp only [hfit, cond_true, Option.map_eq_some_iff] at h
          obtain ⟨tt, h, rfl⟩ := h
          rcases hx with ⟨hx, _⟩ | ⟨_, c1, rfl, hx⟩
          · cases hx
          rcases hy with ⟨hy, _⟩ | ⟨_, c2, rfl, hy⟩
          · cases hy
          obtain ⟨ti, hinf, _, _⟩ := info_of ht hi
          rw [run_equalIn_array w (n + d) _ _ hu hinf]
          cases hx with
          | st _ _ _ hx =>
          cases hy with
          | st _ _ _ hy =>
          have := eqItems_run ht hi hfit (ih ht0 n) (k := 0) h w [] [] c1 c2 x y (by simp) (by simp) hx hy
          rw [List.range_eq_range']
          exact this
      · cases h
    · cases h

variable {L : Locs} {w : World}
include ht in
theorem binTree_run {T : TypeId} {x y : AV} {vx vy : Value} {op : BinOp} {yc : Bool} {v : AV} {o1 o2 : Operand} (hx : ARep m L x vx) (hy : ARep m L y vy)
    (h : (binTree tab op T x y yc).run = some v) : ∃ v', ARep m L v v' ∧ (do eqGuard op T o1 o2 vx vy; binOp op T vx vy : Sem Value).run P w = .ok v' w := by
  unfold binTree at h
  split at h
  · rename_i tr he
    unfold eqAV at he
    split at he
    · rename_i i hi
      split at he
      · rename_i t hb hty
        simp only [Bool.and_eq_true] at hb
        obtain ⟨hag, heq⟩ := hb
        obtain ⟨h1, h2⟩ := (ht T i hi).2 heq
        rw [hty] at h1
        split at he
        · rename_i a b ha hb'
          have r1 := repV_of (castTo_rep hx ha)
          have r2 := repV_of (castTo_rep hy hb')
          have hrun := eqTy_run ht h1 9991 m w a b vx vy r1 r2
          have hagg : t.agg = true := by
            unfold eqTy at h1
            obtain ⟨d, hd, hdesc⟩ := under_of ht hi
            unfold TInfo.agg at hag
            rw [← hdesc] at hag
            rw [hd] at h1
            cases d <;> simp [descOf] at hag
            · simp only at h1
              split at h1
              · rename_i i' t0 hi' ht0
                cases hfit : fits i' t0 with
                | false => simp [hfit] at h1
                | true =>
                  simp only [hfit, cond_true, Option.map_eq_some_iff] at h1
                  obtain ⟨tt, _, rfl⟩ := h1
                  rfl
              · cases h1
            · simp only at h1
              cases hs : P.stoodInHeld T with
              | true => simp [hs] at h1
              | false =>
                simp only [hs, cond_false, Option.map_eq_some_iff] at h1
                obtain ⟨tt, _, rfl⟩ := h1
                rfl
          rcases r1 with ⟨hn, _⟩ | ⟨_, c1, rfl, _⟩
          · rw [hagg] at hn; cases hn
          rcases r2 with ⟨hn, _⟩ | ⟨_, c2, rfl, _⟩
          · rw [hagg] at hn; cases hn
          have hg : (eqGuard op T o1 o2 (.agg ⟨c1⟩) (.agg ⟨c2⟩)).run P w = .ok () w := run_eqGuard_agg w op T o1 o2 _ _ h2
          split at he
          · simp only [Option.some.injEq] at he
            subst he
            simp only [Tree.run_leaf, Option.some.injEq] at h
            subst h
            refine ⟨.bool (eqD t a b), .d1 _ _ _ rfl (.bool _), ?_⟩
            rw [Sem.run_bind, hg, Result.andThen_ok, run_eql_struct, hrun]
            rfl
          · simp only [Option.some.injEq] at he
            subst he
            simp only [Tree.run_leaf, Option.some.injEq] at h
            subst h
            refine ⟨.bool (!(eqD t a b)), .d1 _ _ _ rfl (.bool _), ?_⟩
            rw [Sem.run_bind, hg, Result.andThen_ok, run_neq_struct, hrun]
            rfl
          · cases he
        · cases he
      · cases he
    · cases he
  · exact binAV_run ht hx hy h
end
end Go.Proofs.Am

set_option autoImplicit false
set_option linter.unusedVariables false
set_option linter.unusedSimpArgs false
namespace Go.Proofs.Am
open Go.RowKit

/-! ## Lists that may be written to; texts rune by rune -/
section
variable {P : Program} {tab : Tab} (ht : TabOk P tab) {m : Mem} {L : Locs} {w : World} {st : St} {a : Act} {o : Oper}

include ht in
theorem fieldAddrReq_ok (hs : Sim m L st a w) {T : TypeId} {x : Operand} {f : Nat} (ho : o.op = .fieldAddr T x f) (env : Env) : OpOk P o a w m L st (reqOf tab env o st) := by
  have hx := hs.eval x
  have hreq : reqOf tab env o st = fieldAddrReq tab T (evalO st x) f := by unfold reqOf; simp only [ho]
  rw [hreq]
  unfold fieldAddrReq
  split
  · rename_i s j k n off he
    rw [he] at hx
    split
    · rename_i o' T' hs'
      obtain ⟨fields, hu, g, hg, rfl, rfl⟩ := structField_some ht hs'
      split
      · rename_i fi hfi
        cases h0 : Nat.beq fi.size 0 with
        | true => simp only [cond_true]; exact failOk
        | false =>
          simp only [cond_false]
          refine atArr_ok hs fun t xs v hj hc hv => ?_
          simp only [Tree.run_leaf, Option.some.injEq] at hv
          subst hv
          obtain ⟨b, o0, lm, hl, _⟩ := arr_cells hc
          have hp := pidx_at hx hl
          refine ⟨.pointer (some ⟨b, o0 + n * t.size + off + g.offset, none⟩), .pidx _ _ _ _ _ _ (by rw [hl]; simp) rfl (fun k' b' off' n' sz' lim' he' => ?_), ?_⟩
          · rw [hl] at he'
            cases he'
            exact ⟨Nat.le_refl _, fun _ => by rw [Nat.add_assoc (o0 + n * t.size)]⟩
          · simp only [execOp, ho]
            rw [hp]
            simp [Instr.fieldAt, run_under hu, hg, Instr.sureAddr, fieldPlace_run ht hfi h0]
      · exact failOk
    · exact failOk
  · refine pureOptOk hs fun v hv => ?_
    obtain ⟨v', h1, h2⟩ := fieldAddr_run (P := P) (w := w) ht hx hv
    exact ⟨v', h1, by simp [execOp, ho, h2]⟩

include ht in
theorem lenReq_ok (hs : Sim m L st a w) {c : Call} {x : Operand} {T : TypeId} (hcc : c.callee = .builtin .len) (ho : o.op = .call c) (ha : c.args.toList = [x]) (hT : c.argTypes.toList = [T]) :
    OpOk P o a w m L st (lenReq ((tab.find T).map (·.desc)) (evalO st x)) := by
  have hx := hs.eval x
  have hrun : ∀ v' w', (Builtin.len_ #[T] o.type #[a.eval x]).run P w = .ok v' w' → (execOp a.eval o).run P w = .ok (.value v') w' := by
    intro v' w' h
    have e1 : c.args = #[x] := by have := ha; cases hc : c.args; rw [hc] at this; simp at this; rw [this]
    have e2 : c.argTypes = #[T] := by have := hT; cases hc : c.argTypes; rw [hc] at this; simp at this; rw [this]
    have : (execOp a.eval o).run P w = (builtin .len c.argTypes o.type (c.args.map fun | .const _ => true | _ => false) (c.args.map a.eval)).run P w := by
      simp [execOp, ho, resolve, hcc, invoke]
      rfl
    rw [this, e1, e2]
    simp [builtin, h]
  unfold lenReq
  split
  · rename_i s j k he
    rw [he] at hx
    split
    · rename_i e hd
      refine atArr_ok hs fun t xs v hj hc hv => ?_
      simp only [Tree.run_leaf, Option.some.injEq] at hv
      subst hv
      obtain ⟨b, o0, lm, hl, _, hmax, _⟩ := arr_cells hc
      obtain ⟨A, cc, hv, _⟩ := ms_at hx hl
      obtain ⟨i, hi, hdi⟩ := Option.map_eq_some_iff.1 hd
      have hu := under_slice ht hi hdi
      refine ⟨_, ok_int (i64_len hmax), hrun _ _ ?_⟩
      rw [hv]
      simp [Builtin.len_, run_under hu, goInt]
    · exact failOk
  · refine pureOk hs fun v hv => ?_
    obtain ⟨v', h1, h2⟩ := len_run (P := P) (w := w) (ty := o.type) ht hx hv
    exact ⟨v', h1, hrun _ _ h2⟩

include ht in
theorem indexAddrReq_ok (hs : Sim m L st a w) {T : TypeId} {x i : Operand} {ic : Bool} (ho : o.op = .indexAddr T x i) : OpOk P o a w m L st (indexAddrReq tab T (evalO st x) (evalO st i) ic) := by
  have hx := hs.eval x
  have hi := hs.eval i
  unfold indexAddrReq
  split
  · rename_i s j k he
    rw [he] at hx
    split
    · rename_i kd n ei hin hsl
      refine atArr_ok hs fun t xs v hj hc hv => ?_
      cases hf : fits ei t with
      | false => simp [hf] at hv
      | true =>
        simp only [hf, cond_true, Tree.run_br, Tree.run_leaf, Tree.run_fail] at hv
        cases hr : (decide (0 ≤ n) && decide (n < xs.length)) with
        | false => simp [hr] at hv
        | true =>
          simp only [hr, cond_true, Option.some.injEq] at hv
          subst hv
          simp only [Bool.and_eq_true, decide_eq_true_eq] at hr
          obtain ⟨b, o0, lm, hl, hz, hmax, _⟩ := arr_cells hc
          obtain ⟨A, cc, hv, hnc, hcl, hA⟩ := ms_at hx hl
          obtain ⟨_, h0, _⟩ | rfl := hA.symm
          · omega
          obtain ⟨hiv, _⟩ := intOf_rep hi hin
          obtain ⟨e, hu, hei⟩ := sliceOf_some ht hsl
          obtain ⟨hsz, _⟩ := fits_size hf
          refine ⟨.pointer (some ⟨b, o0 + n.toNat * t.size, none⟩), .pidx _ _ _ _ _ _ (by rw [hl]; simp) rfl (fun k' b' off' n' sz' lim' he' => ?_), ?_⟩
          · rw [hl] at he'
            cases he'
            exact ⟨Nat.le_refl _, fun _ => by rw [Nat.add_zero]⟩
          · simp only [execOp, ho]
            rw [hv, hiv]
            have hcond : ((0 : Int) ≤ n ∧ n < (xs.length : Int)) := hr
            simp [Instr.indexAt, asIntOf, run_under hu, hcond, run_sizeOf' ht hei, hsz, addr_add]
    · exact failOk
  · refine pureOk hs fun v hv => ?_
    obtain ⟨v', h1, h2⟩ := indexAddr_run (P := P) (w := w) ht hx hi hv
    exact ⟨v', h1, by simp [execOp, ho, h2]⟩

theorem nilCheck_pidx (hs : Sim m L st a w) {x : Operand} {s j k n off : Nat} (ho : o.op = .nilCheck x) (he : evalO st x = .pidx s j k n off) : OpOk P o a w m L st (atArr s j k fun _ _ => .leaf (.pidx s j k n off)) := by
  have hx := hs.eval x
  rw [he] at hx
  refine atArr_ok hs fun t xs v hj hc hv => ?_
  simp only [Tree.run_leaf, Option.some.injEq] at hv
  subst hv
  obtain ⟨b, o0, lm, hl, _⟩ := arr_cells hc
  have hp := pidx_at hx hl
  exact ⟨_, hx, by simp [execOp, ho, hp]⟩

theorem bytes_eta {s : ByteArray} {x : List UInt8} (h : s.data.toList = x) : s = ⟨⟨x⟩⟩ := by
  subst h
  rfl

include ht in
theorem range_ok (hs : Sim m L st a w) {T : TypeId} {x : Operand} (ho : o.op = .range T x) : OpOk P o a w m L st (rangeReq tab T (evalO st x) (o.dst.getD 0)) := by
  have hx := hs.eval x
  unfold rangeReq
  split
  · rename_i s hd hst
    obtain ⟨s', hv, hs', hmax⟩ := strOf_rep hx hst
    simp only [descAt, Option.map_eq_some_iff] at hd
    obtain ⟨i, hi, hdi⟩ := hd
    have hu := under_str ht hi hdi
    intro v fs hrun next Q hn
    obtain ⟨hsite, rfl, rfl⟩ := single_run hrun
    have hexec : (execOp a.eval o).run P w = .ok (.value (.pointer (some ⟨w.heap.size, 0, none⟩))) { w with heap := w.heap.push (.stringIter s' 0) } := by
      simp [execOp, ho, Instr.range, run_under hu, hv, newObj, Sem.run]
    rw [hexec]
    refine hn _ _ m (L.set (o.dst.getD 0) 0 (.map w.heap.size)) (.iref _ _ w.heap.size (by simp [Locs.set])) (did_single hs.res hsite (evo_new hs.agree) ?_ ?_)
    · exact ⟨w.heap.size, rfl, s', by simp, hs', hmax⟩
    · intro b i hf
      simp only [foot] at hf
      omega
  · exact failOk

theorem evo_setObj {r : Nat} {x x' : Obj} (ha : Agree m w) (hb : w.heap[r]? = some x) (h1 : isRow x = false) (h2 : isRow x' = false) : Evo (fun b _ => b = r) w m { w with heap := w.heap.setIfInBounds r x' } m where
  size := by simp
  os := rfl
  tape := rfl
  output := rfl
  le := m.le_refl
  agree b j v h := by
    have h := ha b j v h
    unfold World.cell? at h ⊢
    by_cases hbr : b = r
    · subst hbr
      simp only [hb] at h
      cases x <;> simp [isRow] at h1 <;> cases h
    · simp only [Array.getElem?_setIfInBounds_ne (Ne.symm hbr)]
      exact h
  new b j h h' := absurd h' h
  same b hlt := by
    by_cases hbr : b = r
    · subst hbr
      refine .inr (.inr ⟨fun _ => rfl, x, x', hb, ?_, h1, h2⟩)
      simp [hlt]
    · exact .inl (by simp only [Array.getElem?_setIfInBounds_ne (Ne.symm hbr)])

theorem next_ok (hs : Sim m L st a w) {x : Operand} (ho : o.op = .next x true) : OpOk P o a w m L st (nextReq (evalO st x)) := by
  have hx := hs.eval x
  unfold nextReq
  split
  · rename_i s j he
    rw [he] at hx
    intro v fs hrun next Q hn
    simp only [List.map_cons, List.map_nil] at hrun
    split at hrun
    · rename_i t pos hj
      obtain ⟨r, hl, bs, hb, hbs, hmax⟩ := hs.res.at_ s j _ hj
      generalize hev : a.eval x = vx at hx
      cases hx with
      | iref _ _ r' hl' =>
      rw [hl] at hl'
      cases hl'
      have hlen : t.length = bs.size := by rw [← hbs]; simp
      simp only [Tree.run_br, Tree.run_leaf] at hrun
      cases hp : decide (pos < t.length) with
      | true =>
        simp only [hp, cond_true, Option.some.injEq, Prod.mk.injEq] at hrun
        obtain ⟨rfl, rfl⟩ := hrun
        have hp : pos < bs.size := by rw [← hlen]; exact of_decide_eq_true hp
        obtain ⟨c, hc⟩ : ∃ c, c = Utf8.decode bs pos := ⟨_, rfl⟩
        have hdec : decodeL t pos = c := by rw [hc, bytes_eta hbs]; rfl
        have hexec : (execOp a.eval o).run P w = .ok (.value (.tuple #[.bool true, goInt pos, .int .i32 c.1])) { w with heap := w.heap.setIfInBounds r (.stringIter bs (pos + c.2)) } := by
          simp [execOp, ho, hev, Instr.next, getObj, setObj, Sem.run, hb, hp, ← hc]
        rw [hdec] at hn
        rw [hexec]
        refine hn _ _ m L (.tup _ [.bool true, goInt pos, .int .i32 c.1] rfl fun i hi hcc => ?_) (did_set hs.agree hs.res hj (by rw [hl]; exact evo_setObj hs.agree hb rfl rfl) ?_ ?_)
        · match i, hi with
          | 0, _ => exact .tt
          | 1, _ =>
            simp only [List.getElem_cons_succ, List.getElem_cons_zero]
            exact ok_int (i64_len (by omega))
          | 2, _ =>
            simp only [List.getElem_cons_succ, List.getElem_cons_zero]
            have hb1 : c.1 < 4194304 := by
              rw [hc]
              unfold Utf8.decode
              dsimp only
              repeat' split
              all_goals simp only [Utf8.runeError]
              all_goals omega
            refine ok_int ⟨?_, ?_⟩
            · have : IntKind.min .i32 = -2147483648 := rfl
              omega
            · have : IntKind.max .i32 = 2147483647 := rfl
              omega
        · have hr : r < w.heap.size := (Array.getElem?_eq_some_iff.1 hb).1
          exact ⟨r, hl, bs, by simp [hr], hbs, hmax⟩
        · intro b i hf
          rw [hl] at hf ⊢
          exact hf
      | false =>
        simp only [hp, cond_false, Option.some.injEq, Prod.mk.injEq] at hrun
        obtain ⟨rfl, rfl⟩ := hrun
        have hp : ¬ pos < bs.size := by rw [← hlen]; exact of_decide_eq_false hp
        have hexec : (execOp a.eval o).run P w = .ok (.value (.tuple #[.bool false])) w := by
          simp [execOp, ho, hev, Instr.next, getObj, Sem.run, hb, hp]
        rw [hexec]
        refine hn _ _ m L (.tup _ [.bool false] rfl fun i hi hcc => ?_) (read_did hs)
        match i, hi with
        | 0, _ => exact .ff
    · simp at hrun
  · exact failOk
end
end Go.Proofs.Am

set_option autoImplicit false
set_option linter.unusedVariables false
set_option linter.unusedSimpArgs false
namespace Go.Proofs.Am
open Go.RowKit

section
variable {P : Program} {tab : Tab} (ht : TabOk P tab) {m : Mem} {L : Locs} {w : World} {st : St} {a : Act} {o : Oper}

theorem optArg {x : Option Operand} (hs : Sim m L st a w) : match x.map (evalO st), x.map a.eval with | none, none => True | some x, some v => ARep m L x v | _, _ => False := by
  cases x with
  | none => trivial
  | some x => exact hs.eval x

theorem partsArg (hs : Sim m L st a w) (parts : Array (Nat × Operand)) :
    ((parts.toList.map fun (i, x) => (i, a.eval x)).map (·.1)) = ((parts.toList.map fun (i, x) => (i, evalO st x)).map (·.1)) ∧
    ReL m L ((parts.toList.map fun (i, x) => (i, evalO st x)).map (·.2)) ((parts.toList.map fun (i, x) => (i, a.eval x)).map (·.2)) := by
  refine ⟨by simp, ?_⟩
  have := hs.evals (parts.toList.map (·.2))
  simpa [List.map_map, Function.comp_def] using this

theorem resolve_builtin {c : Call} {b : Builtin} (h : c.callee = .builtin b) (ho : o.op = .call c) :
    (execOp a.eval o).run P w = (builtin b c.argTypes o.type (c.args.map fun | .const _ => true | _ => false) (c.args.map a.eval)).run P w := by
  simp [execOp, ho, resolve, h, invoke]
  rfl

theorem minMax_run {mx : Bool} {xs : List AV} {vs : List Value} {Ts : Array TypeId} {ty : TypeId} {v : AV} (h : ReL m L xs vs) (hr : (minMax mx xs).run = some v) :
    ∃ v', ARep m L v v' ∧ ((if mx then Builtin.max_ Ts ty ⟨vs⟩ else Builtin.min_ Ts ty ⟨vs⟩)).run P w = .ok v' w := by
  unfold minMax at hr
  split at hr
  · rename_i x y
    obtain ⟨vx, cs, rfl, hx, h⟩ := h.head
    obtain ⟨vy, cs, rfl, hy, h⟩ := h.head
    have : cs = [] := List.eq_nil_of_length_eq_zero h.1
    subst this
    split at hr
    · rename_i k a k' b ha hb
      split at hr
      · rename_i hk _
        obtain ⟨hk⟩ := hk
        subst hk
        obtain ⟨rfl, r1⟩ := intOf_rep hx ha
        obtain ⟨rfl, r2⟩ := intOf_rep hy hb
        simp only [Tree.run_leaf, Option.some.injEq] at hr
        subst hr
        cases mx
        · simp only [Bool.false_eq_true, if_false, cond_false]
          refine ⟨.int k (min a b), .d1 _ _ _ rfl (.int k _ ?_), ?_⟩
          · obtain ⟨h1, h2⟩ := r1
            obtain ⟨h3, h4⟩ := r2
            unfold inRange
            omega
          · simp [Builtin.min_, Builtin.min2]; omega
        · simp only [if_true, cond_true]
          refine ⟨.int k (max a b), .d1 _ _ _ rfl (.int k _ ?_), ?_⟩
          · obtain ⟨h1, h2⟩ := r1
            obtain ⟨h3, h4⟩ := r2
            unfold inRange
            omega
          · simp [Builtin.max_, Builtin.max2]; omega
      · simp at hr
    · simp at hr
  · simp at hr

theorem list_two {α : Type} {a : Array α} {x y : α} (h : a.toList = [x, y]) : a = #[x, y] := by
  cases a; simp at h; rw [h]
theorem list_one {α : Type} {a : Array α} {x : α} (h : a.toList = [x]) : a = #[x] := by
  cases a; simp at h; rw [h]

include ht in
theorem append_ok {c : Call} (hs : Sim m L st a w) (ho : o.op = .call c) (hc : c.callee = .builtin .append) {x y : Operand} {T Tx : TypeId} (ha : c.args.toList = [x, y]) (hT : c.argTypes.toList = [T, Tx]) :
    OpOk P o a w m L st (appendOp tab T Tx (o.dst.getD 0) (evalO st x) (evalO st y)) := by
  have hexec : ∀ v' w', (Builtin.append_ #[T, Tx] o.type #[a.eval x, a.eval y]).run P w = .ok v' w' → (execOp a.eval o).run P w = .ok (.value v') w' := by
    intro v' w' h
    rw [resolve_builtin hc ho, list_two ha, list_two hT]
    simp [builtin, h]
  have hx := hs.eval x
  have hy := hs.eval y
  unfold appendOp
  split
  · rename_i i t hel
    obtain ⟨e, hu, he, hf, hb0, hs0, hz0⟩ := elemTy_some ht hel
    obtain ⟨hsz, hag⟩ := fits_size hf
    split
    · rename_i e2 hd
      simp only [descAt, Option.map_eq_some_iff] at hd
      obtain ⟨i2, hi2, hd2⟩ := hd
      split
      · rename_i ys hys
        have hcast := castTo_rep hy hys
        obtain ⟨A, n, cc, hv, hrep⟩ : ∃ A n c, a.eval y = .slice A n c ∧ RepC m (.list t) [.slice A n c] ys := by
          rcases hcast.data with ⟨_, h⟩ | ⟨h, _⟩
          · generalize a.eval y = vy at h
            cases h with
            | nil _ A c => exact ⟨A, 0, c, rfl, .nil _ _ _⟩
            | list _ b off n c xs cs hn hl hc hm h => exact ⟨_, _, _, rfl, .list _ b off n c _ cs hn hl hc hm h⟩
          · simp [Ty.agg] at h
        obtain ⟨news, cf, hsrc⟩ := src_list (P := P) (w := w) (hsz ▸ hs0) hrep
        exact append_core ht hs hu he hf hb0 hs0 hz0 (under_slice ht hi2 hd2) (.inl ⟨_, rfl⟩) hx (hv ▸ hsrc) hexec
      · exact failOk
    · rename_i hd
      simp only [descAt, Option.map_eq_some_iff] at hd
      obtain ⟨i2, hi2, hd2⟩ := hd
      split
      · rename_i h' s _ hstr
        obtain ⟨hty⟩ := h'
        subst hty
        obtain ⟨s', hv, rfl, hss⟩ := strOf_rep hy hstr
        exact append_core ht hs hu he hf hb0 hs0 hz0 (under_str ht hi2 hd2) (.inr rfl) hx (hv ▸ src_string) hexec
      · exact failOk
    · exact failOk
  · exact failOk

/-- Every operation but a call of a function of the program. -/
def isCall (o : Oper) : Bool :=
  match o.op with
  | .call c => match c.callee with | .value _ => true | _ => false
  | _ => false

include ht in
theorem op_sound (hs : Sim m L st a w) (env : Env) (hc : isCall o = false) : OpOk P o a w m L st (reqOf tab env o st) := by
  cases ho : o.op <;> (try (unfold reqOf; simp only [ho]; exact failOk))
  case move x =>
    unfold reqOf; simp only [ho]
    refine pureOk hs fun v hv => ?_
    simp only [Tree.run_leaf, Option.some.injEq] at hv
    subst hv
    exact ⟨_, hs.eval x, by simp [execOp, ho]⟩
  case assign x =>
    unfold reqOf; simp only [ho]
    refine pureOk hs fun v hv => ?_
    simp only [Tree.run_leaf, Option.some.injEq] at hv
    subst hv
    exact ⟨_, hs.eval x, by simp [execOp, ho]⟩
  case pick c x y =>
    unfold reqOf; simp only [ho]
    refine pureOk hs fun v hv => ?_
    obtain ⟨v', h1, h2⟩ := pick_run (P := P) (w := w) (hs.eval c) (hs.eval x) (hs.eval y) hv
    refine ⟨v', h1, ?_⟩
    simp only [execOp, ho]
    simp only [Sem.run_bind, Sem.run_pure] at h2 ⊢
    revert h2
    cases (asBool (a.eval c)).run P w with
    | ok b w1 => simp only [Result.andThen_ok]; intro h2; cases h2; rfl
    | halt h w1 => simp [Result.andThen]
  case alloc T => exact alloc_ok ht hs ho env
  case box T x => exact box_ok hs ho env
  case build T parts =>
    unfold reqOf; simp only [ho]
    refine pureOptOk hs fun v hv => ?_
    obtain ⟨h1, h2⟩ := partsArg hs parts
    obtain ⟨v', h3, h4⟩ := build_run (P := P) (w := w) ht h1 h2 hv
    refine ⟨v', h3, ?_⟩
    have : (parts.map fun (p : Nat × Operand) => (p.1, a.eval p.2)) = ⟨parts.toList.map fun (i, x) => (i, a.eval x)⟩ := by
      apply Array.ext'; simp
    simp only [execOp, ho]
    rw [Sem.run_bind, this, h4]
    rfl
  case buildSlice T n parts => exact buildSlice_ok ht hs ho env
  case load T x => exact load_ok ht hs ho env
  case store T p x => exact store_ok ht hs ho env
  case nilCheck x =>
    have hx := hs.eval x
    unfold reqOf; simp only [ho]
    cases hp : evalO st x <;> (rw [hp] at hx; simp only) <;> try exact failOk
    case pidx s j k n off => exact nilCheck_pidx hs ho hp
    all_goals
      refine pureOk hs fun v hv => ?_
      simp only [Tree.run_leaf, Option.some.injEq] at hv
      subst hv
      refine ⟨_, hx, ?_⟩
      generalize hev : a.eval x = vx at hx
      cases hx
      simp [execOp, ho, hev]
  case binOp op T x y z =>
    unfold reqOf; simp only [ho]
    refine pureOk hs fun v hv => ?_
    obtain ⟨v', h1, h2⟩ := binTree_run (P := P) (w := w) ht (o1 := x) (o2 := y) (hs.eval x) (hs.eval y) hv
    refine ⟨v', h1, ?_⟩
    simp only [execOp, ho]
    rw [Sem.run_bind, h2]
    rfl
  case unOp op T x =>
    unfold reqOf; simp only [ho]
    refine pureOk hs fun v hv => ?_
    obtain ⟨v', h1, h2⟩ := un_run (P := P) (w := w) (hs.eval x) hv
    exact ⟨v', h1, by simp [execOp, ho, h2]⟩
  case convert src dst x => exact conv_ok ht hs ho env
  case makeFunc f first caps =>
    unfold reqOf; simp only [ho]
    cases f <;> try exact failOk
    case func f =>
      refine pureOk hs fun v hv => ?_
      simp only [Tree.run_leaf, Option.some.injEq] at hv
      subst hv
      have h1 := hs.evals first.toList
      have h2 := hs.evals caps.toList
      refine ⟨_, .fn f _ _ _ _ h1.1 h2.1 h1.2 h2.2, ?_⟩
      have e1 : Array.map a.eval first = ⟨List.map a.eval first.toList⟩ := by apply Array.ext'; simp
      have e2 : Array.map a.eval caps = ⟨List.map a.eval caps.toList⟩ := by apply Array.ext'; simp
      simp [execOp, ho, Instr.makeFunc, e1, e2]
  case makeMap T r =>
    cases r with
    | some _ => unfold reqOf; simp only [ho]; exact failOk
    | none => exact makeMap_ok ht hs ho env
  case lookup T x i ok => exact lookup_ok ht hs ho env
  case mapUpdate T x i y =>
    unfold reqOf; simp only [ho]
    exact update_ok ht hs (.inl ho)
  case insert T x i y =>
    unfold reqOf; simp only [ho]
    exact update_ok ht hs (.inr ho)
  case slice T x lo hi mx =>
    unfold reqOf; simp only [ho]
    cases mx with
    | some _ => exact failOk
    | none =>
      refine pureOk hs fun v hv => ?_
      obtain ⟨v', h1, h2⟩ := slice_run (P := P) (w := w) ht (hs.eval x) (optArg hs) (optArg hs) hv
      exact ⟨v', h1, by simp [execOp, ho, h2]⟩
  case fieldAddr T x f => exact fieldAddrReq_ok ht hs ho env
  case field T x f =>
    unfold reqOf; simp only [ho]
    refine pureOptOk hs fun v hv => ?_
    obtain ⟨v', h1, h2⟩ := field_run (P := P) (w := w) ht (hs.eval x) hv
    exact ⟨v', h1, by simp [execOp, ho, h2]⟩
  case indexAddr T x i =>
    unfold reqOf; simp only [ho]
    exact indexAddrReq_ok ht hs ho
  case range T x =>
    unfold reqOf; simp only [ho]
    exact range_ok ht hs ho
  case next x str =>
    cases str with
    | true =>
      unfold reqOf; simp only [ho]
      exact next_ok hs ho
    | false => unfold reqOf; simp only [ho]; exact failOk
  case index T x i =>
    unfold reqOf; simp only [ho]
    refine pureOk hs fun v hv => ?_
    obtain ⟨v', h1, h2⟩ := index_run (P := P) (w := w) ht (hs.eval x) (hs.eval i) hv
    exact ⟨v', h1, by simp [execOp, ho, h2]⟩
  case extract x i =>
    have hx := hs.eval x
    unfold reqOf; simp only [ho]
    cases hp : evalO st x <;> (rw [hp] at hx; simp only) <;> try exact failOk
    case tup ls =>
      refine pureOptOk hs fun v hv => ?_
      generalize hev : a.eval x = vx at hx
      cases hx with
      | tup _ cs hn hh =>
      have hi : i < ls.length := by
        rcases Nat.lt_or_ge i ls.length with h | h
        · exact h
        · rw [List.getElem?_eq_none h] at hv; cases hv
      rw [List.getElem?_eq_getElem hi] at hv
      cases hv
      refine ⟨_, hh i hi (by omega), ?_⟩
      simp [execOp, ho, hev, Instr.extract, List.getElem?_eq_getElem (show i < cs.length by omega)]
  case call c =>
    unfold reqOf; simp only [ho]
    split
    · rename_i hcc
      split
      · rename_i x T ha hT
        exact lenReq_ok ht hs hcc ho ha hT
      · exact failOk
    · rename_i hcc
      split
      · rename_i x y T Tx ha hT
        exact append_ok ht hs ho hcc ha hT
      · exact failOk
    · rename_i hcc
      refine pureOk hs fun v hv => ?_
      obtain ⟨v', h1, h2⟩ := minMax_run (P := P) (w := w) (Ts := c.argTypes) (ty := o.type) (hs.evals c.args.toList) hv
      refine ⟨v', h1, ?_⟩
      rw [resolve_builtin hcc ho]
      have : c.args.map a.eval = ⟨c.args.toList.map a.eval⟩ := by apply Array.ext'; simp
      simp only [if_true] at h2
      simp [builtin, this, h2]
    · rename_i hcc
      refine pureOk hs fun v hv => ?_
      obtain ⟨v', h1, h2⟩ := minMax_run (P := P) (w := w) (Ts := c.argTypes) (ty := o.type) (hs.evals c.args.toList) hv
      refine ⟨v', h1, ?_⟩
      rw [resolve_builtin hcc ho]
      have : c.args.map a.eval = ⟨c.args.toList.map a.eval⟩ := by apply Array.ext'; simp
      simp only [Bool.false_eq_true, if_false] at h2
      simp [builtin, this, h2]
    · rename_i hcc
      simp [isCall, ho, hcc] at hc
    · exact failOk
end
end Go.Proofs.Am

set_option autoImplicit false
set_option linter.unusedVariables false
set_option linter.unusedSimpArgs false
namespace Go.Proofs.Am
open Go.RowKit

/-! ## New names for resources -/
def Like (m : Mem) (L L' : Locs) : Cont → Cont → Prop
  | .tok, c' => c' = .tok
  | .cells ls, c' => ∃ ls', c' = .cells ls' ∧ ls'.length = ls.length ∧ ∀ cs, ReL m L ls cs → ReL m L' ls' cs
  | .map k v es, c' => c' = .map k v es
  | .arr k t xs, c' => c' = .arr k t xs
  | .iter s pos, c' => c' = .iter s pos
  | _, _ => False

def Loc.reset : Loc → Loc
  | .arr _ b o n sz lim => .arr 0 b o n sz lim
  | l => l

/-- A content and where it lies, under a new name: the version of a list that may be written to starts anew, if it must. -/
def Alike (m : Mem) (L L' : Locs) (l l' : Loc) (c c' : Cont) : Prop :=
  (l' = l ∧ Like m L L' c c') ∨ ∃ k t xs, c = .arr k t xs ∧ c' = .arr 0 t xs ∧ l' = l.reset

structure Ren (m : Mem) (L L' : Locs) (R R' : Nat → List Cont) (src : Nat → Nat → Option (Nat × Nat)) : Prop where
  from_ : ∀ s j c', (R' s)[j]? = some c' → c' = .gone ∨ (c' = .tok ∧ L' s j = .tok none) ∨ ∃ s0 j0 c, src s j = some (s0, j0) ∧ (R s0)[j0]? = some c ∧ Alike m L L' (L s0 j0) (L' s j) c c'
  inj : ∀ s j s' j' p, src s j = some p → src s' j' = some p → s = s' ∧ j = j'
  no : ∀ s, R' s = [] → ∀ j, L' s j = .no

theorem Like.foot {m : Mem} {L L' : Locs} {c c' : Cont} (h : Like m L L' c c') {l : Loc} {b i : Nat} (hf : foot l c' b i) : foot l c b i := by
  cases c <;> simp only [Like] at h
  case tok => subst h; exact hf
  case cells ls =>
    obtain ⟨ls', rfl, hl, _⟩ := h
    cases l <;> simp only [Am.foot] at hf ⊢ <;> try exact hf
    rw [hl] at hf; exact hf
  case map => subst h; exact hf
  case arr => subst h; exact hf
  case iter => subst h; exact hf

theorem Like.cont {m : Mem} {L L' : Locs} {w : World} {c c' : Cont} (h : Like m L L' c c') {l : Loc} (hc : ContAt m L w l c) : ContAt m L' w l c' := by
  cases c <;> simp only [Like] at h
  case tok => subst h; exact hc
  case cells ls =>
    obtain ⟨ls', rfl, hl, hr⟩ := h
    obtain ⟨b, off, rfl, hb, cs, h1, h2, h3⟩ := hc
    exact ⟨b, off, rfl, hb, cs, hr cs h1, h2, h3⟩
  case map => subst h; exact hc
  case arr => subst h; exact hc
  case iter => subst h; exact hc

theorem Alike.foot {m : Mem} {L L' : Locs} {l l' : Loc} {c c' : Cont} (h : Alike m L L' l l' c c') {b i : Nat} (hf : foot l' c' b i) : foot l c b i := by
  rcases h with ⟨rfl, h⟩ | ⟨k, t, xs, rfl, rfl, rfl⟩
  · exact h.foot hf
  · cases l <;> first | exact hf | (simp [Loc.reset, Am.foot] at hf; done)
theorem Alike.cont {m : Mem} {L L' : Locs} {w : World} {l l' : Loc} {c c' : Cont} (h : Alike m L L' l l' c c') (hc : ContAt m L w l c) : ContAt m L' w l' c' := by
  rcases h with ⟨rfl, h⟩ | ⟨k, t, xs, rfl, rfl, rfl⟩
  · exact h.cont hc
  · obtain ⟨b, o, lm, rfl, h⟩ := hc
    exact ⟨b, o, lm, rfl, h⟩

theorem foot_none {c : Cont} {b i : Nat} : ¬ foot (.tok none) c b i := by cases c <;> simp [foot]

theorem ren_res {m : Mem} {L L' : Locs} {w : World} {R R' : Nat → List Cont} {src : Nat → Nat → Option (Nat × Nat)} (hr : ResAt m L w R) (h : Ren m L L' R R' src) : ResAt m L' w R' where
  at_ s j c' hc := by
    rcases h.from_ s j c' hc with rfl | ⟨rfl, hl⟩ | ⟨s0, j0, c, hs, hc0, hk⟩
    · trivial
    · exact ⟨none, hl, fun b e lim hh => by cases hh⟩
    · exact hk.cont (hr.at_ _ _ _ hc0)
  apart s j c s' j' c' hc hc' hne b i hf hf' := by
    rcases h.from_ s j c hc with rfl | ⟨rfl, hl⟩ | ⟨s0, j0, c0, hs, hc0, hk⟩
    · exact foot_gone hf
    · rw [hl] at hf; exact foot_none hf
    · rcases h.from_ s' j' c' hc' with rfl | ⟨rfl, hl'⟩ | ⟨s1, j1, c1, hs', hc1, hk'⟩
      · exact foot_gone hf'
      · rw [hl'] at hf'; exact foot_none hf'
      · refine hr.apart s0 j0 c0 s1 j1 c1 hc0 hc1 ?_ b i (hk.foot hf) (hk'.foot hf')
        intro e
        cases e
        obtain ⟨rfl, rfl⟩ := h.inj _ _ _ _ _ hs hs'
        exact hne rfl
  no := h.no

/-- The places of all that is held. -/
def feet (L : Locs) (R : Nat → List Cont) (b i : Nat) : Prop := ∃ s j c, (R s)[j]? = some c ∧ foot (L s j) c b i

theorem ren_feet {m : Mem} {L L' : Locs} {R R' : Nat → List Cont} {src : Nat → Nat → Option (Nat × Nat)} (h : Ren m L L' R R' src) {b i : Nat} (hf : feet L' R' b i) : feet L R b i := by
  obtain ⟨s, j, c', hc, hf⟩ := hf
  rcases h.from_ s j c' hc with rfl | ⟨rfl, hl⟩ | ⟨s0, j0, c0, hs, hc0, hk⟩
  · exact absurd hf foot_gone
  · rw [hl] at hf; exact absurd hf foot_none
  · exact ⟨s0, j0, c0, hc0, hk.foot hf⟩

/-! ## What a function is -/
def famRes (fams : List (List Cont)) : Nat → List Cont := fun s => (fams[s]?).getD []
def outRes (o : Out) : Nat → List Cont := fun s => bif Nat.beq s retSite then o.ret else (o.fams[s]?).getD []
def isRef (l : Loc) : Prop := (∃ b off, l = .box b off) ∨ ∃ r, l = .map r

def CallsF (P : Program) (f : FuncId) (vs : List Value) (w : World) (R : Value → World → Prop) : Prop :=
  ∀ (o : Oper) (a : Act) (next : Act → World → Prop) (Q : Exit → Act → World → Prop), (∀ v w', R v w' → next (a.put o.dst v) w') → o.upon P a next Q ((callFunc f ⟨vs⟩).run P w)

structure After (m : Mem) (L : Locs) (w : World) (R : Nat → List Cont) (out : Out) (v : Value) (w' : World) (m' : Mem) (L' : Locs) : Prop where
  evo : Evo (feet L R) w m w' m'
  res : ARep m' L' out.res v
  has : ResAt m' L' w' (outRes out)
  keep : ∀ s j c, (R s)[j]? = some c → isTok (some c) = false → L' s j = L s j
  feet : ∀ b i, feet L' (outRes out) b i → Am.feet L R b i ∨ w.heap.size ≤ b

def FSound (P : Program) (f : FuncId) (fs : FnSpec) : Prop :=
  ∀ (m : Mem) (L : Locs) (w : World) (args : List AV) (fams : List (List Cont)) (vs : List Value) (out : Out), Agree m w → ReL m L args vs → ResAt m L w (famRes fams) →
    (fs.spec args fams).run = some out → CallsF P f vs w fun v w' => ∃ m' L', After m L w (famRes fams) out v w' m' L'

def EnvOk (P : Program) (env : Env) : Prop := ∀ f fs, env.find f = some fs → FSound P f fs

theorem envOk_nil (P : Program) : EnvOk P [] := fun f fs h => by cases h
theorem envOk_cons {P : Program} {env : Env} {f : FuncId} {fs : FnSpec} (h : FSound P f fs) (h' : EnvOk P env) : EnvOk P ((f, fs) :: env) := by
  intro g gs hg
  simp only [Env.find] at hg
  split at hg
  · rename_i hb
    have : g = f := Nat.eq_of_beq_eq_true hb
    subst this
    cases hg; exact h
  · exact h' g gs hg

/-! ## Names there and back -/
theorem dup_inj : ∀ {α : Type} {l : List α} {f : α → Nat × Nat}, dupFree (l.map f) = true → ∀ x ∈ l, ∀ y ∈ l, f x = f y → x = y
  | _, [], _, _, x, hx, _, _, _ => absurd hx (by simp)
  | α, a :: l, f, h, x, hx, y, hy, he => by
    simp only [List.map_cons, dupFree, Bool.and_eq_true, Bool.not_eq_true'] at h
    obtain ⟨h1, h2⟩ := h
    have hno : ∀ z ∈ l, f a ≠ f z := by
      intro z hz he
      rw [List.any_eq_false] at h1
      refine h1 (f z) (List.mem_map_of_mem hz) ?_
      rw [he]; simp
    rcases List.mem_cons.1 hx with e1 | hx' <;> rcases List.mem_cons.1 hy with e2 | hy'
    · rw [e1, e2]
    · rw [e1] at he; exact absurd he (hno y hy')
    · rw [e2] at he; exact absurd he.symm (hno x hx')
    · exact dup_inj h2 x hx' y hy' he

theorem find_mem {bk : Back} {a b : Nat} {p : Nat × Nat} (h : bk.find a b = some p) : ((a, b), p) ∈ bk := by
  induction bk with
  | nil => cases h
  | cons e bk ih =>
    obtain ⟨⟨x, y⟩, r⟩ := e
    simp only [Back.find] at h
    cases hb : (Nat.beq x a && Nat.beq y b) with
    | true =>
      simp only [hb, cond_true, Option.some.injEq] at h
      simp only [Bool.and_eq_true] at hb
      have h1 := Nat.eq_of_beq_eq_true hb.1
      have h2 := Nat.eq_of_beq_eq_true hb.2
      subst h1; subst h2; subst h
      simp
    | false =>
      simp only [hb, cond_false] at h
      exact List.mem_cons_of_mem _ (ih h)

theorem find_none {bk : Back} {a b : Nat} (h : bk.find a b = none) (p : Nat × Nat) : ((a, b), p) ∉ bk := by
  induction bk with
  | nil => simp
  | cons e bk ih =>
    obtain ⟨⟨x, y⟩, r⟩ := e
    simp only [Back.find] at h
    cases hb : (Nat.beq x a && Nat.beq y b) with
    | true => simp [hb] at h
    | false =>
      simp only [hb, cond_false] at h
      intro hm
      rcases List.mem_cons.1 hm with he | hm
      · simp only [Prod.mk.injEq] at he
        obtain ⟨⟨rfl, rfl⟩, _⟩ := he
        simp at hb
      · exact ih h hm

theorem find_of_mem {bk : Back} (hd : dupFree (bk.map (·.1)) = true) {a b : Nat} {p : Nat × Nat} (h : ((a, b), p) ∈ bk) : bk.find a b = some p := by
  cases hf : bk.find a b with
  | none => exact absurd h (find_none hf p)
  | some q =>
    have := dup_inj hd _ (find_mem hf) _ h rfl
    simp only [Prod.mk.injEq, true_and] at this
    rw [this]

theorem from_mem {bk : Back} {s j : Nat} {p : Nat × Nat} (h : bk.from s j = some p) : (p, (s, j)) ∈ bk := by
  induction bk with
  | nil => cases h
  | cons e bk ih =>
    obtain ⟨r, ⟨x, y⟩⟩ := e
    simp only [Back.from] at h
    cases hb : (Nat.beq x s && Nat.beq y j) with
    | true =>
      simp only [hb, cond_true, Option.some.injEq] at h
      simp only [Bool.and_eq_true] at hb
      have h1 := Nat.eq_of_beq_eq_true hb.1
      have h2 := Nat.eq_of_beq_eq_true hb.2
      subst h1; subst h2; subst h
      simp
    | false =>
      simp only [hb, cond_false] at h
      exact List.mem_cons_of_mem _ (ih h)

theorem from_none {bk : Back} {s j : Nat} (h : bk.from s j = none) (p : Nat × Nat) : (p, (s, j)) ∉ bk := by
  induction bk with
  | nil => simp
  | cons e bk ih =>
    obtain ⟨r, ⟨x, y⟩⟩ := e
    simp only [Back.from] at h
    cases hb : (Nat.beq x s && Nat.beq y j) with
    | true => simp [hb] at h
    | false =>
      simp only [hb, cond_false] at h
      intro hm
      rcases List.mem_cons.1 hm with he | hm
      · simp only [Prod.mk.injEq] at he
        obtain ⟨_, rfl, rfl⟩ := he
        simp at hb
      · exact ih h hm

theorem sitesOfL_cons {x : AV} {xs : List AV} (h : sitesOfL (x :: xs) = []) : sitesOf x = [] ∧ sitesOfL xs = [] := by
  simpa [sitesOfL] using h
theorem sitesOfL_get : ∀ {xs : List AV}, sitesOfL xs = [] → ∀ (i : Nat) (hi : i < xs.length), sitesOf xs[i] = []
  | x :: xs, h, 0, _ => (sitesOfL_cons h).1
  | x :: xs, h, i + 1, hi => sitesOfL_get (sitesOfL_cons h).2 i (by simpa using hi)

/-- What names nothing stands wherever things lie. -/
theorem rep_nosites {m : Mem} {L L' : Locs} {x : AV} {v : Value} (h : ARep m L x v) (hs : sitesOf x = []) : ARep m L' x v := by
  induction h with
  | junk v => exact .junk v
  | undef => exact .undef
  | tt => exact .tt
  | ff => exact .ff
  | d1 t x v ha h => exact .d1 t x v ha h
  | d2 t x cs ha h => exact .d2 t x cs ha h
  | own => simp [sitesOf] at hs
  | nil => exact .nil
  | st ls cs hn h1 h ih => exact .st ls cs hn h1 fun i hi hc => ih i hi hc (sitesOfL_get (by simpa [sitesOf] using hs) i hi)
  | ptr => simp [sitesOf] at hs
  | pel t x b off cs hm h => exact .pel t x b off cs hm h
  | nilp => exact .nilp
  | nilfn => exact .nilfn
  | nilm => exact .nilm
  | fn f a b va vb ha hb h1 h2 ih1 ih2 =>
    simp only [sitesOf, List.append_eq_nil_iff] at hs
    exact .fn f a b va vb ha hb (fun i hi hc => ih1 i hi hc (sitesOfL_get hs.1 i hi)) (fun i hi hc => ih2 i hi hc (sitesOfL_get hs.2 i hi))
  | mref => simp [sitesOf] at hs
  | iref => simp [sitesOf] at hs
  | ms => simp [sitesOf] at hs
  | pidx => simp [sitesOf] at hs
  | tup ls cs hn h ih => exact .tup ls cs hn fun i hi hc => ih i hi hc (sitesOfL_get (by simpa [sitesOf] using hs) i hi)

theorem own_data {m : Mem} {L L' : Locs} {t : Ty} {xs : List t.den} {s j : Nat} {v : Value} (h : ARep m L (.own t xs s j) v) : ARep m L' (.d (.list t) xs) v := by
  cases h with
  | own _ _ _ _ A n c h hl => exact .d1 _ _ _ rfl h

theorem own_move {m : Mem} {L L' : Locs} {t : Ty} {xs : List t.den} {s j s' j' : Nat} {v : Value} (h : ARep m L (.own t xs s j) v) (hl : L' s' j' = L s j) : ARep m L' (.own t xs s' j') v := by
  cases h with
  | own _ _ _ _ A n c h hh => exact .own _ _ _ _ A n c h (hl ▸ hh)
theorem ptr_move {m : Mem} {L L' : Locs} {s j s' j' off : Nat} {v : Value} (h : ARep m L (.ptr s j off) v) (hl : L' s' j' = L s j) : ARep m L' (.ptr s' j' off) v := by
  cases h with
  | ptr _ _ _ b o hh => exact .ptr _ _ _ b o (hl ▸ hh)
theorem mref_move {m : Mem} {L L' : Locs} {s j s' j' : Nat} {v : Value} (h : ARep m L (.mref s j) v) (hl : L' s' j' = L s j) : ARep m L' (.mref s' j') v := by
  cases h with
  | mref _ _ r hh => exact .mref _ _ r (hl ▸ hh)

theorem ms_move {m : Mem} {L L' : Locs} {s j k s' j' : Nat} {v : Value} (h : ARep m L (.ms s j k) v) (hl : L' s' j' = L s j) : ARep m L' (.ms s' j' k) v := by
  cases h with
  | ms _ _ _ _ hn ho hh => exact .ms _ _ _ _ (hl ▸ hn) ho (hl ▸ hh)

/-! ### The arguments under the callee's names -/
theorem unAVs_get {nw bx : Back} : ∀ {xs ys : List AV}, unAVs nw bx xs = some ys → ys.length = xs.length ∧ ∀ (i : Nat) (hi : i < xs.length) (hy : i < ys.length), unAVn nw bx xs[i] = some ys[i]
  | [], ys, h => by
    simp only [unAVs, Option.some.injEq] at h
    subst h; exact ⟨rfl, fun i hi => absurd hi (by simp)⟩
  | x :: xs, ys, h => by
    simp only [unAVs] at h
    split at h
    · rename_i y ys' h1 h2
      simp only [Option.some.injEq] at h
      subst h
      obtain ⟨g1, g2⟩ := unAVs_get h2
      refine ⟨by simp [g1], fun i hi hy => ?_⟩
      cases i with
      | zero => exact h1
      | succ i => exact g2 i (by simpa using hi) (by simpa using hy)
    · cases h

section
variable {m : Mem} {Lc L' : Locs} {nw bx : Back}

theorem un_rep (hn : ∀ s j p, nw.find s j = some p → L' p.1 p.2 = Lc s j) (hb : ∀ s j p, bx.find s j = some p → L' p.1 p.2 = Lc s j) {x : AV} {v : Value} (h : ARep m Lc x v) : ∀ {x' : AV}, unAVn nw bx x = some x' → ARep m L' x' v := by
  induction h with
  | junk v => intro x' hx; simp only [unAVn, Option.some.injEq] at hx; subst hx; exact .junk v
  | undef => intro x' hx; simp only [unAVn, Option.some.injEq] at hx; subst hx; exact .undef
  | tt => intro x' hx; simp only [unAVn, Option.some.injEq] at hx; subst hx; exact .tt
  | ff => intro x' hx; simp only [unAVn, Option.some.injEq] at hx; subst hx; exact .ff
  | d1 t x v ha h => intro x' hx; simp only [unAVn, Option.some.injEq] at hx; subst hx; exact .d1 t x v ha h
  | d2 t x cs ha h => intro x' hx; simp only [unAVn, Option.some.injEq] at hx; subst hx; exact .d2 t x cs ha h
  | own t xs s j A n c h hl =>
    intro x' hx
    simp only [unAVn] at hx
    split at hx
    · rename_i s' j' hf
      simp only [Option.some.injEq] at hx
      subst hx
      exact own_move (.own t xs s j A n c h hl) (hn _ _ _ hf)
    · simp only [Option.some.injEq] at hx
      subst hx
      exact .d1 _ _ _ rfl h
  | nil => intro x' hx; simp only [unAVn, Option.some.injEq] at hx; subst hx; exact .nil
  | st ls cs hl h1 h ih =>
    intro x' hx
    simp only [unAVn] at hx
    split at hx
    · rename_i ls' hls
      simp only [Option.some.injEq] at hx
      subst hx
      obtain ⟨g1, g2⟩ := unAVs_get hls
      exact .st ls' cs (hl.trans g1.symm) h1 fun i hi hc => ih i (by omega) hc (g2 i (by omega) hi)
    · cases hx
  | ptr s j off b o h =>
    intro x' hx
    simp only [unAVn] at hx
    split at hx
    · rename_i s' j' hf
      simp only [Option.some.injEq] at hx
      subst hx
      exact ptr_move (.ptr s j off b o h) (hn _ _ _ hf)
    · split at hx
      · rename_i s' j' hf
        simp only [Option.some.injEq] at hx
        subst hx
        exact ptr_move (.ptr s j off b o h) (hb _ _ _ hf)
      · cases hx
  | pel t x b off cs hm h => intro x' hx; simp only [unAVn, Option.some.injEq] at hx; subst hx; exact .pel t x b off cs hm h
  | nilp => intro x' hx; simp only [unAVn, Option.some.injEq] at hx; subst hx; exact .nilp
  | nilfn => intro x' hx; simp only [unAVn, Option.some.injEq] at hx; subst hx; exact .nilfn
  | nilm => intro x' hx; simp only [unAVn, Option.some.injEq] at hx; subst hx; exact .nilm
  | fn f a b va vb ha hb' h1 h2 ih1 ih2 =>
    intro x' hx
    simp only [unAVn] at hx
    split at hx
    · rename_i a' b' hla hlb
      simp only [Option.some.injEq] at hx
      subst hx
      obtain ⟨g1, g2⟩ := unAVs_get hla
      obtain ⟨g3, g4⟩ := unAVs_get hlb
      exact .fn f a' b' va vb (ha.trans g1.symm) (hb'.trans g3.symm) (fun i hi hc => ih1 i (by omega) hc (g2 i (by omega) hi)) (fun i hi hc => ih2 i (by omega) hc (g4 i (by omega) hi))
    · cases hx
  | mref s j r h =>
    intro x' hx
    simp only [unAVn] at hx
    split at hx
    · rename_i s' j' hf
      simp only [Option.some.injEq] at hx
      subst hx
      exact mref_move (.mref s j r h) (hn _ _ _ hf)
    · split at hx
      · rename_i s' j' hf
        simp only [Option.some.injEq] at hx
        subst hx
        exact mref_move (.mref s j r h) (hb _ _ _ hf)
      · cases hx
  | iref s j r h => intro x' hx; simp only [unAVn, reduceCtorEq] at hx
  | ms s j k v hno ho h =>
    intro x' hx
    simp only [unAVn] at hx
    split at hx
    · rename_i s' j' hf
      simp only [Option.some.injEq] at hx
      subst hx
      exact ms_move (.ms s j k v hno ho h) (hn _ _ _ hf)
    · cases hx
  | pidx s j k i o v hn ho h => intro x' hx; simp only [unAVn, reduceCtorEq] at hx
  | tup ls cs hl h ih =>
    intro x' hx
    simp only [unAVn] at hx
    split at hx
    · rename_i ls' hls
      simp only [Option.some.injEq] at hx
      subst hx
      obtain ⟨g1, g2⟩ := unAVs_get hls
      exact .tup ls' cs (hl.trans g1.symm) fun i hi hc => ih i (by omega) hc (g2 i (by omega) hi)
    · cases hx

end

theorem unConts_get {nw bx : Back} : ∀ {xs ys : List Cont}, unConts nw bx xs = some ys → ys.length = xs.length ∧ ∀ (i : Nat) (c : Cont), ys[i]? = some c → ∃ c0, xs[i]? = some c0 ∧ unCont nw bx c0 = some c
  | [], ys, h => by
    simp only [unConts, Option.some.injEq] at h
    subst h; exact ⟨rfl, by simp⟩
  | x :: xs, ys, h => by
    simp only [unConts] at h
    split at h
    · rename_i y ys' h1 h2
      simp only [Option.some.injEq] at h
      subst h
      obtain ⟨g1, g2⟩ := unConts_get h2
      refine ⟨by simp [g1], fun i c hc => ?_⟩
      cases i with
      | zero => simp at hc; subst hc; exact ⟨x, rfl, h1⟩
      | succ i => exact g2 i c (by simpa using hc)
    · cases h


section
variable {m : Mem} {L Lc : Locs} {get : Nat → Nat → Option Cont}

theorem tok_find {bk : Back} (hb : ∀ e ∈ bk, Lc e.1.1 e.1.2 = L e.2.1 e.2.2) : ∀ s j p, (tokBack get bk).find s j = some p → Lc p.1 p.2 = L s j := by
  intro s j p h
  have := find_mem h
  simp only [tokBack, turned, List.mem_filter, List.mem_map] at this
  obtain ⟨⟨⟨e1, e2⟩, he, heq⟩, _⟩ := this
  simp only [Prod.mk.injEq] at heq
  obtain ⟨rfl, rfl⟩ := heq
  exact hb _ he
theorem ref_find {bk keep : Back} (hb : ∀ e ∈ bk, Lc e.1.1 e.1.2 = L e.2.1 e.2.2) (hk : ∀ e ∈ keep, Lc e.2.1 e.2.2 = L e.1.1 e.1.2) : ∀ s j p, (refBack get bk ++ keep).find s j = some p → Lc p.1 p.2 = L s j := by
  intro s j p h
  have := find_mem h
  simp only [refBack, turned, List.mem_append, List.mem_filter, List.mem_map] at this
  rcases this with ⟨⟨⟨e1, e2⟩, he, heq⟩, _⟩ | h
  · simp only [Prod.mk.injEq] at heq
    obtain ⟨rfl, rfl⟩ := heq
    exact hb _ he
  · exact hk _ h

/-- What is named is there, and is a token, a box or a map. -/
def real (c : Cont) : Prop := c = .tok ∨ (∃ ls, c = .cells ls) ∨ ∃ k v es, c = .map k v es

theorem un_like {nw bx : Back} (hn : ∀ s j p, nw.find s j = some p → Lc p.1 p.2 = L s j) (hb : ∀ s j p, bx.find s j = some p → Lc p.1 p.2 = L s j) {c c' : Cont} (h : unCont nw bx c = some c') (hr : real c) : Like m L Lc c c' := by
  rcases hr with rfl | ⟨ls, rfl⟩ | ⟨k, v, es, rfl⟩
  · simp only [unCont, Option.some.injEq] at h
    exact h.symm
  · simp only [unCont] at h
    split at h
    · rename_i ls' hls
      simp only [Option.some.injEq] at h
      subst h
      obtain ⟨g1, g2⟩ := unAVs_get hls
      exact ⟨ls', rfl, g1, fun cs hr => ⟨hr.1.trans g1.symm, fun i hi hc => un_rep hn hb (hr.2 i (by omega) hc) (g2 i (by omega) hi)⟩⟩
    · cases h
  · simp only [unCont, Option.some.injEq] at h
    exact h.symm

theorem leafNames_ok {own : Bool} {i : Nat} : ∀ {ls : List AV} {q : Nat},
    (∀ e ∈ (leafNames get own i q ls).2, e.1.1 = i ∧ q + 1 ≤ e.1.2 ∧ ∃ c, (leafNames get own i q ls).1[e.1.2 - (q + 1)]? = some c ∧ get e.2.1 e.2.2 = some c ∧ real c) ∧
    (∀ k c, (leafNames get own i q ls).1[k]? = some c → c = .gone ∨ ∃ p, ((i, q + 1 + k), p) ∈ (leafNames get own i q ls).2)
  | [], q => ⟨by simp [leafNames], by simp [leafNames]⟩
  | x :: xs, q => by
    obtain ⟨g1, g2⟩ := leafNames_ok (own := own) (i := i) (ls := xs) (q := q + 1)
    obtain ⟨r, hr⟩ : ∃ r, r = leafNames get own i (q + 1) xs := ⟨_, rfl⟩
    rw [← hr] at g1 g2
    have hplain : ∀ {z : List Cont × Back}, z = (.gone :: r.1, r.2) →
        (∀ e ∈ z.2, e.1.1 = i ∧ q + 1 ≤ e.1.2 ∧ ∃ c, z.1[e.1.2 - (q + 1)]? = some c ∧ get e.2.1 e.2.2 = some c ∧ real c) ∧ (∀ k c, z.1[k]? = some c → c = .gone ∨ ∃ p, ((i, q + 1 + k), p) ∈ z.2) := by
      rintro z rfl
      refine ⟨fun e he => ?_, fun k c hk => ?_⟩
      · obtain ⟨h1, h2, c, h3, h4⟩ := g1 e he
        refine ⟨h1, by omega, c, ?_, h4⟩
        rw [show e.1.2 - (q + 1) = (e.1.2 - (q + 1 + 1)) + 1 by omega, List.getElem?_cons_succ]
        exact h3
      · cases k with
        | zero => simp at hk; exact .inl hk.symm
        | succ k =>
          rw [List.getElem?_cons_succ] at hk
          rw [show q + 1 + (k + 1) = q + 1 + 1 + k by omega]
          exact g2 k c hk
    have hnamed : ∀ {z : List Cont × Back} {c0 : Cont} {s j : Nat}, z = (c0 :: r.1, ((i, q + 1), (s, j)) :: r.2) → get s j = some c0 → real c0 →
        (∀ e ∈ z.2, e.1.1 = i ∧ q + 1 ≤ e.1.2 ∧ ∃ c, z.1[e.1.2 - (q + 1)]? = some c ∧ get e.2.1 e.2.2 = some c ∧ real c) ∧ (∀ k c, z.1[k]? = some c → c = .gone ∨ ∃ p, ((i, q + 1 + k), p) ∈ z.2) := by
      rintro z c0 s j rfl hg hc
      refine ⟨fun e he => ?_, fun k c hk => ?_⟩
      · rcases List.mem_cons.1 he with rfl | he
        · exact ⟨rfl, Nat.le_refl _, c0, by simp, hg, hc⟩
        · obtain ⟨h1, h2, c, h3, h4⟩ := g1 e he
          refine ⟨h1, by omega, c, ?_, h4⟩
          rw [show e.1.2 - (q + 1) = (e.1.2 - (q + 1 + 1)) + 1 by omega, List.getElem?_cons_succ]
          exact h3
      · cases k with
        | zero => exact .inr ⟨_, List.mem_cons_self⟩
        | succ k =>
          rw [List.getElem?_cons_succ] at hk
          rw [show q + 1 + (k + 1) = q + 1 + 1 + k by omega]
          rcases g2 k c hk with h | ⟨p, h⟩
          · exact .inl h
          · exact .inr ⟨p, List.mem_cons_of_mem _ h⟩
    have hz : leafNames get own i q (x :: xs) = (match (generalizing := false) x with
      | .own _ _ s j => (match (generalizing := false) own, get s j with
        | true, some .tok => (.tok :: (leafNames get own i (q + 1) xs).1, ((i, q + 1), (s, j)) :: (leafNames get own i (q + 1) xs).2)
        | _, _ => (.gone :: (leafNames get own i (q + 1) xs).1, (leafNames get own i (q + 1) xs).2))
      | .mref s j => (match get s j with
        | some (.map k v es) => (.map k v es :: (leafNames get own i (q + 1) xs).1, ((i, q + 1), (s, j)) :: (leafNames get own i (q + 1) xs).2)
        | _ => (.gone :: (leafNames get own i (q + 1) xs).1, (leafNames get own i (q + 1) xs).2))
      | _ => (.gone :: (leafNames get own i (q + 1) xs).1, (leafNames get own i (q + 1) xs).2)) := rfl
    rw [hz]
    simp only [← hr]
    split
    · split
      · rename_i hg
        exact hnamed rfl hg (.inl rfl)
      · exact hplain rfl
    · split
      · rename_i hg
        exact hnamed rfl hg (.inr (.inr ⟨_, _, _, rfl⟩))
      · exact hplain rfl
    · exact hplain rfl

theorem capNames_ok {i : Nat} : ∀ {ls : List (Nat × Nat)} {q : Nat},
    (∀ e ∈ (capNames get i q ls).2, e.1.1 = i ∧ q ≤ e.1.2 ∧ ∃ c, (capNames get i q ls).1[e.1.2 - q]? = some c ∧ get e.2.1 e.2.2 = some c ∧ real c) ∧
    (∀ k c, (capNames get i q ls).1[k]? = some c → c = .gone ∨ ∃ p, ((i, q + k), p) ∈ (capNames get i q ls).2)
  | [], q => ⟨by simp [capNames], by simp [capNames]⟩
  | x :: xs, q => by
    obtain ⟨g1, g2⟩ := capNames_ok (i := i) (ls := xs) (q := q + 1)
    obtain ⟨r, hr⟩ : ∃ r, r = capNames get i (q + 1) xs := ⟨_, rfl⟩
    rw [← hr] at g1 g2
    have hplain : ∀ {z : List Cont × Back}, z = (.gone :: r.1, r.2) →
        (∀ e ∈ z.2, e.1.1 = i ∧ q ≤ e.1.2 ∧ ∃ c, z.1[e.1.2 - q]? = some c ∧ get e.2.1 e.2.2 = some c ∧ real c) ∧ (∀ k c, z.1[k]? = some c → c = .gone ∨ ∃ p, ((i, q + k), p) ∈ z.2) := by
      rintro z rfl
      refine ⟨fun e he => ?_, fun k c hk => ?_⟩
      · obtain ⟨h1, h2, c, h3, h4⟩ := g1 e he
        refine ⟨h1, by omega, c, ?_, h4⟩
        rw [show e.1.2 - q = (e.1.2 - (q + 1)) + 1 by omega, List.getElem?_cons_succ]
        exact h3
      · cases k with
        | zero => simp at hk; exact .inl hk.symm
        | succ k =>
          rw [List.getElem?_cons_succ] at hk
          rw [show q + (k + 1) = q + 1 + k by omega]
          exact g2 k c hk
    have hnamed : ∀ {z : List Cont × Back} {c0 : Cont}, z = (c0 :: r.1, ((i, q), x) :: r.2) → get x.1 x.2 = some c0 → real c0 →
        (∀ e ∈ z.2, e.1.1 = i ∧ q ≤ e.1.2 ∧ ∃ c, z.1[e.1.2 - q]? = some c ∧ get e.2.1 e.2.2 = some c ∧ real c) ∧ (∀ k c, z.1[k]? = some c → c = .gone ∨ ∃ p, ((i, q + k), p) ∈ z.2) := by
      rintro z c0 rfl hg hc
      refine ⟨fun e he => ?_, fun k c hk => ?_⟩
      · rcases List.mem_cons.1 he with rfl | he
        · exact ⟨rfl, Nat.le_refl _, c0, by simp, hg, hc⟩
        · obtain ⟨h1, h2, c, h3, h4⟩ := g1 e he
          refine ⟨h1, by omega, c, ?_, h4⟩
          dsimp only
          rw [show e.1.2 - q = (e.1.2 - (q + 1)) + 1 by omega, List.getElem?_cons_succ]
          exact h3
      · cases k with
        | zero => exact .inr ⟨_, List.mem_cons_self⟩
        | succ k =>
          simp only [List.getElem?_cons_succ] at hk
          rw [show q + (k + 1) = q + 1 + k by omega]
          rcases g2 k c hk with h | ⟨p, h⟩
          · exact .inl h
          · exact .inr ⟨p, List.mem_cons_of_mem _ h⟩
    have hz : capNames get i q (x :: xs) = (match (generalizing := false) get x.1 x.2 with
      | some (.cells ls) => (.cells ls :: (capNames get i (q + 1) xs).1, ((i, q), x) :: (capNames get i (q + 1) xs).2)
      | some (.map k v es) => (.map k v es :: (capNames get i (q + 1) xs).1, ((i, q), x) :: (capNames get i (q + 1) xs).2)
      | _ => (.gone :: (capNames get i (q + 1) xs).1, (capNames get i (q + 1) xs).2)) := rfl
    rw [hz]
    simp only [← hr]
    split
    · rename_i ls hg
      exact hnamed rfl hg (.inr (.inl ⟨_, rfl⟩))
    · rename_i k v es hg
      exact hnamed rfl hg (.inr (.inr ⟨_, _, _, rfl⟩))
    · exact hplain rfl

theorem nameArg_ok {own : Bool} {i : Nat} {x : AV} :
    (∀ e ∈ (nameArg get own i x).2, e.1.1 = i ∧ ∃ c, (nameArg get own i x).1[e.1.2]? = some c ∧ get e.2.1 e.2.2 = some c ∧ real c) ∧
    (∀ k c, (nameArg get own i x).1[k]? = some c → c = .gone ∨ ∃ p, ((i, k), p) ∈ (nameArg get own i x).2) := by
  have hnone : ∀ {z : List Cont × Back}, z = ([], []) → (∀ e ∈ z.2, e.1.1 = i ∧ ∃ c, z.1[e.1.2]? = some c ∧ get e.2.1 e.2.2 = some c ∧ real c) ∧ (∀ k c, z.1[k]? = some c → c = .gone ∨ ∃ p, ((i, k), p) ∈ z.2) := by
    rintro z rfl; exact ⟨by simp, by simp⟩
  have hone : ∀ {z : List Cont × Back} {c0 : Cont} {s j : Nat}, z = ([c0], [((i, 0), (s, j))]) → get s j = some c0 → real c0 → (∀ e ∈ z.2, e.1.1 = i ∧ ∃ c, z.1[e.1.2]? = some c ∧ get e.2.1 e.2.2 = some c ∧ real c) ∧ (∀ k c, z.1[k]? = some c → c = .gone ∨ ∃ p, ((i, k), p) ∈ z.2) := by
    rintro z c0 s j rfl hg hc
    refine ⟨fun e he => ?_, fun k c hk => ?_⟩
    · simp only [List.mem_singleton] at he
      subst he
      exact ⟨rfl, c0, rfl, hg, hc⟩
    · match k, hk with
      | 0, hk => exact .inr ⟨_, List.mem_cons_self⟩
  unfold nameArg
  split
  · rename_i s j _
    split
    · rename_i ls hg
      obtain ⟨g1, g2⟩ := leafNames_ok (get := get) (own := true) (i := i) (ls := ls) (q := 0)
      refine ⟨fun e he => ?_, fun k c hk => ?_⟩
      · rcases List.mem_cons.1 he with rfl | he
        · exact ⟨rfl, .cells ls, rfl, hg, .inr (.inl ⟨_, rfl⟩)⟩
        · obtain ⟨h1, h2, c, h3, h4⟩ := g1 e he
          refine ⟨h1, c, ?_, h4⟩
          dsimp only
          rw [show e.1.2 = (e.1.2 - (0 + 1)) + 1 by omega, List.getElem?_cons_succ]; exact h3
      · cases k with
        | zero => exact .inr ⟨_, List.mem_cons_self⟩
        | succ k =>
          simp only [List.getElem?_cons_succ] at hk
          rcases g2 k c hk with h | ⟨p, h⟩
          · exact .inl h
          · rw [show 0 + 1 + k = k + 1 by omega] at h
            exact .inr ⟨p, List.mem_cons_of_mem _ h⟩
    · exact hnone rfl
  · split
    · rename_i hg
      exact hone rfl hg (.inl rfl)
    · exact hnone rfl
  · split
    · rename_i hg
      exact hone rfl hg (.inr (.inr ⟨_, _, _, rfl⟩))
    · exact hnone rfl
  · rename_i ls
    obtain ⟨g1, g2⟩ := leafNames_ok (get := get) (own := own) (i := i) (ls := ls) (q := 0)
    refine ⟨fun e he => ?_, fun k c hk => ?_⟩
    · obtain ⟨h1, h2, c, h3, h4⟩ := g1 e he
      refine ⟨h1, c, ?_, h4⟩
      dsimp only
      rw [show e.1.2 = (e.1.2 - (0 + 1)) + 1 by omega, List.getElem?_cons_succ]; exact h3
    · cases k with
      | zero => simp at hk; exact .inl hk.symm
      | succ k =>
        simp only [List.getElem?_cons_succ] at hk
        rcases g2 k c hk with h | ⟨p, h⟩
        · exact .inl h
        · rw [show 0 + 1 + k = k + 1 by omega] at h
          exact .inr ⟨p, h⟩
  · rename_i f0 ca cb
    obtain ⟨g1, g2⟩ := capNames_ok (get := get) (i := i) (ls := ptrsOfL (ca ++ cb)) (q := 0)
    refine ⟨fun e he => ?_, fun k c hk => ?_⟩
    · obtain ⟨h1, h2, c, h3, h4⟩ := g1 e he
      exact ⟨h1, c, h3, h4⟩
    · have := g2 k c hk
      rwa [Nat.zero_add] at this
  · exact hnone rfl

theorem nameArgs_ok {owns : List Nat} : ∀ {xs : List AV} {i : Nat},
    (∀ e ∈ (nameArgs get owns i xs).2, i ≤ e.1.1 ∧ ∃ c, (((nameArgs get owns i xs).1[e.1.1 - i]?).getD [])[e.1.2]? = some c ∧ get e.2.1 e.2.2 = some c ∧ real c) ∧
    (∀ n k c, (((nameArgs get owns i xs).1[n]?).getD [])[k]? = some c → c = .gone ∨ ∃ p, ((i + n, k), p) ∈ (nameArgs get owns i xs).2)
  | [], i => ⟨by simp [nameArgs], by simp [nameArgs]⟩
  | x :: xs, i => by
    obtain ⟨g1, g2⟩ := nameArg_ok (get := get) (own := owns.any (Nat.beq i)) (i := i) (x := x)
    obtain ⟨k1, k2⟩ := nameArgs_ok (owns := owns) (xs := xs) (i := i + 1)
    simp only [nameArgs]
    refine ⟨fun e he => ?_, fun n k c hk => ?_⟩
    · rcases List.mem_append.1 he with he | he
      · obtain ⟨h1, c, h2, h3⟩ := g1 e he
        refine ⟨Nat.le_of_eq h1.symm, c, ?_, h3⟩
        rw [h1, Nat.sub_self]; exact h2
      · obtain ⟨h1, c, h2, h3⟩ := k1 e he
        refine ⟨by omega, c, ?_, h3⟩
        rw [show e.1.1 - i = (e.1.1 - (i + 1)) + 1 by omega, List.getElem?_cons_succ]; exact h2
    · cases n with
      | zero =>
        rcases g2 k c (by simpa using hk) with h | ⟨p, h⟩
        · exact .inl h
        · exact .inr ⟨p, List.mem_append_left _ h⟩
      | succ n =>
        rw [List.getElem?_cons_succ] at hk
        rcases k2 n k c hk with h | ⟨p, h⟩
        · exact .inl h
        · rw [show i + 1 + n = i + (n + 1) by omega] at h
          exact .inr ⟨p, List.mem_append_right _ h⟩

theorem addLast_get (more : List Cont) : ∀ {fs : List (List Cont)} (n : Nat), ((addLast more fs)[n]?).getD [] = if n + 1 = fs.length then ((fs[n]?).getD []) ++ more else (fs[n]?).getD []
  | [], n => by simp [addLast]
  | [f], n => by
    cases n with
    | zero => simp [addLast]
    | succ n => simp [addLast]
  | f :: g :: fs, n => by
    cases n with
    | zero => simp [addLast]
    | succ n =>
      have := addLast_get more (fs := g :: fs) n
      simp only [addLast, List.getElem?_cons_succ, this, List.length_cons]
      split <;> split <;> first | rfl | omega

theorem nameArgs_len {owns : List Nat} : ∀ {xs : List AV} {i : Nat}, (nameArgs get owns i xs).1.length = xs.length
  | [], i => rfl
  | x :: xs, i => by simp [nameArgs, nameArgs_len]

theorem nameAll_ok {owns : List Nat} {xs : List AV} :
    (∀ e ∈ (nameAll get owns xs).2, ∃ c, (((nameAll get owns xs).1[e.1.1]?).getD [])[e.1.2]? = some c ∧ get e.2.1 e.2.2 = some c ∧ real c) ∧
    (∀ n k c, (((nameAll get owns xs).1[n]?).getD [])[k]? = some c → c = .gone ∨ ∃ p, ((n, k), p) ∈ (nameAll get owns xs).2) := by
  obtain ⟨g1, g2⟩ := nameArgs_ok (get := get) (owns := owns) (xs := xs) (i := 0)
  have hl := nameArgs_len (get := get) (owns := owns) (xs := xs) (i := 0)
  unfold nameAll
  dsimp only
  obtain ⟨r, hr⟩ : ∃ r, r = nameArgs get owns 0 xs := ⟨_, rfl⟩
  rw [← hr] at g1 g2 hl ⊢
  generalize hex : (reach get 64 (r.1.flatMap fun f => f.flatMap contPtrs) (r.2.map (·.2))).drop (r.2.map (·.2)).length = ex
  · obtain ⟨q, hq⟩ : ∃ q, q = ((r.1.getLast?).getD []).length := ⟨_, rfl⟩
    rw [← hq]
    obtain ⟨k1, k2⟩ := capNames_ok (get := get) (i := xs.length - 1) (ls := ex) (q := q)
    obtain ⟨m, hm⟩ : ∃ m, m = capNames get (xs.length - 1) q ex := ⟨_, rfl⟩
    rw [← hm] at k1 k2 ⊢
    cases hxs : xs with
    | nil =>
      have hr2 : r = ([], []) := by rw [hr, hxs]; rfl
      have hexn : ex = [] := by
        rw [← hex, hr2]
        simp [reach]
      subst hexn
      rw [hm, hr2]
      exact ⟨by simp [capNames], by simp [addLast]⟩
    | cons x0 xs0 =>
      have hpos : r.1.length = xs.length - 1 + 1 := by rw [hl, hxs]; simp
      have hlast : ((r.1[xs.length - 1]?).getD []).length = q := by
        rw [hq, List.getLast?_eq_getElem?]
        congr 3
        omega
      refine ⟨fun e he => ?_, fun n k c hk => ?_⟩
      · rcases List.mem_append.1 he with he | he
        · obtain ⟨_, c, h2, h3⟩ := g1 e he
          rw [Nat.sub_zero] at h2
          refine ⟨c, ?_, h3⟩
          rw [addLast_get]
          split
          · have hlt : e.1.2 < ((r.1[e.1.1]?).getD []).length := by
              rcases Nat.lt_or_ge e.1.2 ((r.1[e.1.1]?).getD []).length with h | h
              · exact h
              · rw [List.getElem?_eq_none h] at h2; cases h2
            rw [List.getElem?_append_left hlt]; exact h2
          · exact h2
        · obtain ⟨h1, h2, c, h3, h4⟩ := k1 e he
          refine ⟨c, ?_, h4⟩
          rw [addLast_get, h1, if_pos (by omega), List.getElem?_append_right (by rw [hlast]; exact h2), hlast]
          exact h3
      · rw [addLast_get] at hk
        split at hk
        · rename_i hn
          have hne : n = xs.length - 1 := by omega
          rcases Nat.lt_or_ge k ((r.1[n]?).getD []).length with h | h
          · rw [List.getElem?_append_left h] at hk
            have := g2 n k c hk
            rw [Nat.zero_add] at this
            rcases this with h | ⟨p, h⟩
            · exact .inl h
            · exact .inr ⟨p, List.mem_append_left _ h⟩
          · rw [List.getElem?_append_right h] at hk
            rcases k2 _ c hk with h' | ⟨p, h'⟩
            · exact .inl h'
            · refine .inr ⟨p, List.mem_append_right _ ?_⟩
              rw [hne] at h ⊢
              rw [hlast] at h
              rw [hne, hlast, show q + (k - q) = k by omega] at h'
              exact h'
        · have := g2 n k c hk
          rw [Nat.zero_add] at this
          rcases this with h | ⟨p, h⟩
          · exact .inl h
          · exact .inr ⟨p, List.mem_append_left _ h⟩

theorem unFams_get {nw bx : Back} : ∀ {fs gs : List (List Cont)}, unFams nw bx fs = some gs → gs.length = fs.length ∧ ∀ (n k : Nat) (c : Cont), ((gs[n]?).getD [])[k]? = some c → ∃ c0, ((fs[n]?).getD [])[k]? = some c0 ∧ unCont nw bx c0 = some c
  | [], gs, h => by
    simp only [unFams, Option.some.injEq] at h
    subst h; exact ⟨rfl, by simp⟩
  | f :: fs, gs, h => by
    simp only [unFams] at h
    split at h
    · rename_i f' gs' h1 h2
      simp only [Option.some.injEq] at h
      subst h
      obtain ⟨g1, g2⟩ := unFams_get h2
      obtain ⟨k1, k2⟩ := unConts_get h1
      refine ⟨by simp [g1], fun n k c hk => ?_⟩
      cases n with
      | zero => simpa using k2 k c (by simpa using hk)
      | succ n => exact g2 n k c (by simpa using hk)
    · cases h
theorem unConts_back {nw bx : Back} : ∀ {fs gs : List Cont}, unConts nw bx fs = some gs → ∀ (k : Nat) (c : Cont), fs[k]? = some c → ∃ c', gs[k]? = some c' ∧ unCont nw bx c = some c'
  | [], gs, h, k, c, hk => by simp at hk
  | f :: fs, gs, h, k, c, hk => by
    simp only [unConts] at h
    split at h
    · rename_i f' gs' h1 h2
      simp only [Option.some.injEq] at h
      subst h
      cases k with
      | zero => simp at hk; subst hk; exact ⟨f', rfl, h1⟩
      | succ k => simpa using unConts_back h2 k c (by simpa using hk)
    · cases h
theorem unFams_back {nw bx : Back} : ∀ {fs gs : List (List Cont)}, unFams nw bx fs = some gs → ∀ (n k : Nat) (c : Cont), ((fs[n]?).getD [])[k]? = some c → ∃ c', ((gs[n]?).getD [])[k]? = some c' ∧ unCont nw bx c = some c'
  | [], gs, h, n, k, c, hk => by simp at hk
  | f :: fs, gs, h, n, k, c, hk => by
    simp only [unFams] at h
    split at h
    · rename_i f' gs' h1 h2
      simp only [Option.some.injEq] at h
      subst h
      cases n with
      | zero => simpa using unConts_back h1 k c (by simpa using hk)
      | succ n => simpa using unFams_back h2 n k c (by simpa using hk)
    · cases h

theorem renArgs_ok {owns : List Nat} {xs : List AV} {xs' : List AV} {fams : List (List Cont)} {bk : Back} (h : renArgs get owns xs = some (xs', fams, bk)) :
    (∀ e ∈ bk, 0 ≤ e.1.1 ∧ ∃ c c', ((fams[e.1.1 - 0]?).getD [])[e.1.2]? = some c' ∧ get e.2.1 e.2.2 = some c ∧ ((∀ e ∈ bk, Lc e.1.1 e.1.2 = L e.2.1 e.2.2) → Like m L Lc c c')) ∧
    (∀ n k c, ((fams[n]?).getD [])[k]? = some c → c = .gone ∨ ∃ p, ((0 + n, k), p) ∈ bk) ∧
    ((∀ e ∈ bk, Lc e.1.1 e.1.2 = L e.2.1 e.2.2) → ∀ vs, ReL m L xs vs → ReL m Lc xs' vs) := by
  unfold renArgs at h
  dsimp only at h
  split at h
  · rename_i xs0 fams0 h1 h2
    simp only [Option.some.injEq, Prod.mk.injEq] at h
    obtain ⟨rfl, rfl, rfl⟩ := h
    obtain ⟨g1, g2⟩ := nameAll_ok (get := get) (owns := owns) (xs := xs)
    refine ⟨fun e he => ?_, fun n k c hk => ?_, fun hb vs hv => ?_⟩
    · obtain ⟨c, k2, k3, k4⟩ := g1 e he
      obtain ⟨c', k5, k6⟩ := unFams_back h2 _ _ _ k2
      refine ⟨Nat.zero_le _, c, c', k5, k3, fun hb => un_like (tok_find hb) (fun s j p hf => ?_) k6 k4⟩
      exact ref_find (keep := []) hb (by simp) s j p (by rw [List.append_nil]; exact hf)
    · obtain ⟨c0, k1, k2⟩ := (unFams_get h2).2 n k c hk
      rw [Nat.zero_add]
      rcases g2 n k c0 k1 with rfl | h
      · simp only [unCont, Option.some.injEq] at k2
        exact .inl k2.symm
      · exact .inr h
    · obtain ⟨k1, k2⟩ := unAVs_get h1
      exact ⟨hv.1.trans k1.symm, fun j hj hc => un_rep (tok_find hb) (fun s j p hf => ref_find (keep := []) hb (by simp) s j p (by rw [List.append_nil]; exact hf)) (hv.2 j (by omega) hc) (k2 j (by omega) hj)⟩
  · cases h
theorem renArgs_real {owns : List Nat} {xs : List AV} {xs' : List AV} {fams : List (List Cont)} {bk : Back} (h : renArgs get owns xs = some (xs', fams, bk)) : ∀ e ∈ bk, ∃ c, get e.2.1 e.2.2 = some c ∧ real c := by
  unfold renArgs at h
  dsimp only at h
  split at h
  · simp only [Option.some.injEq, Prod.mk.injEq] at h
    obtain ⟨rfl, rfl, rfl⟩ := h
    intro e he
    obtain ⟨c, _, h3, h4⟩ := (nameAll_ok (get := get) (owns := owns) (xs := xs)).1 e he
    exact ⟨c, h3, h4⟩
  · cases h
end
end Go.Proofs.Am

set_option autoImplicit false
set_option linter.unusedVariables false
set_option linter.unusedSimpArgs false
namespace Go.Proofs.Am
open Go.RowKit

section
variable {m : Mem} {Lc L' : Locs} {nw bx : Back}

theorem un_cont (hn : ∀ s j p, nw.find s j = some p → L' p.1 p.2 = Lc s j) (hb : ∀ s j p, bx.find s j = some p → L' p.1 p.2 = Lc s j) {w : World} {l : Loc} {c c' : Cont} (h : ContAt m Lc w l c) (hc : unCont nw bx c = some c') :
    ContAt m L' w l c' ∧ ∀ b i, foot l c' b i → foot l c b i := by
  cases c <;> simp only [unCont] at hc
  case cells ls =>
    split at hc
    · rename_i ls' hls
      simp only [Option.some.injEq] at hc
      subst hc
      obtain ⟨g1, g2⟩ := unAVs_get hls
      obtain ⟨b, off, rfl, hlt, cs, hr, h1, h2⟩ := h
      refine ⟨⟨b, off, rfl, hlt, cs, ⟨hr.1.trans g1.symm, fun i hi hc => un_rep hn hb (hr.2 i (by omega) hc) (g2 i (by omega) hi)⟩, h1, h2⟩, fun b i hf => ?_⟩
      simp only [foot] at hf ⊢
      rw [g1] at hf; exact hf
    · cases hc
  all_goals
    simp only [Option.some.injEq] at hc
    subst hc
    exact ⟨h, fun _ _ h => h⟩
end

theorem nameFrom_find {site : Nat} : ∀ {l : List ((Nat × Nat) × Cont)} {k s j : Nat} {p : Nat × Nat}, (nameFrom site k l).find s j = some p → ∃ i c, l[i]? = some ((s, j), c) ∧ p = (site, k + i)
  | [], k, s, j, p, h => by simp [nameFrom, Back.find] at h
  | ((x, y), c) :: l, k, s, j, p, h => by
    simp only [nameFrom, Back.find] at h
    cases hb : (Nat.beq x s && Nat.beq y j) with
    | true =>
      simp only [hb, cond_true, Option.some.injEq] at h
      simp only [Bool.and_eq_true] at hb
      have h1 := Nat.eq_of_beq_eq_true hb.1
      have h2 := Nat.eq_of_beq_eq_true hb.2
      subst h1; subst h2; subst h
      exact ⟨0, c, rfl, rfl⟩
    | false =>
      simp only [hb, cond_false] at h
      obtain ⟨i, c', h1, h2⟩ := nameFrom_find h
      exact ⟨i + 1, c', by rw [List.getElem?_cons_succ]; exact h1, by rw [h2]; congr 1; omega⟩


theorem freshOf_mem {i : Nat} : ∀ {cs : List Cont} {q : Nat} {e : (Nat × Nat) × Cont}, e ∈ freshOf i q cs → e.1.1 = i ∧ q ≤ e.1.2 ∧ e.2 = .tok ∧ cs[e.1.2 - q]? = some .tok
  | [], q, e, h => by simp [freshOf] at h
  | c :: cs, q, e, h => by
    have hrec : e ∈ freshOf i (q + 1) cs → e.1.1 = i ∧ q ≤ e.1.2 ∧ e.2 = .tok ∧ (c :: cs)[e.1.2 - q]? = some .tok := by
      intro h
      obtain ⟨h1, h2, h3, h4⟩ := freshOf_mem h
      refine ⟨h1, by omega, h3, ?_⟩
      rw [show e.1.2 - q = (e.1.2 - (q + 1)) + 1 by omega, List.getElem?_cons_succ]; exact h4
    cases c with
    | tok =>
      simp only [freshOf] at h
      rcases List.mem_cons.1 h with rfl | h
      · exact ⟨rfl, Nat.le_refl _, rfl, by simp⟩
      · exact hrec h
    | gone => exact hrec h
    | cells => exact hrec h
    | arr => exact hrec h
    | iter => exact hrec h
    | map => exact hrec h

theorem freshAll_mem : ∀ {fams : List (List Cont)} {i : Nat} {e : (Nat × Nat) × Cont}, e ∈ freshAll i fams → i ≤ e.1.1 ∧ e.1.1 - i < fams.length ∧ e.2 = .tok ∧ ((fams[e.1.1 - i]?).getD [])[e.1.2]? = some .tok
  | [], i, e, h => by simp [freshAll] at h
  | f :: fs, i, e, h => by
    have hrec : e ∈ freshAll (i + 1) fs → i ≤ e.1.1 ∧ e.1.1 - i < (f :: fs).length ∧ e.2 = .tok ∧ (((f :: fs)[e.1.1 - i]?).getD [])[e.1.2]? = some .tok := by
      intro h
      obtain ⟨h1, h2, h3, h4⟩ := freshAll_mem h
      refine ⟨by omega, by simp only [List.length_cons]; omega, h3, ?_⟩
      rw [show e.1.1 - i = (e.1.1 - (i + 1)) + 1 by omega, List.getElem?_cons_succ]; exact h4
    simp only [freshAll] at h
    split at h
    · rename_i ls cs
      rcases List.mem_append.1 h with h | h
      · obtain ⟨h1, h2, h3, h4⟩ := freshOf_mem h
        refine ⟨Nat.le_of_eq h1.symm, by rw [h1]; simp, h3, ?_⟩
        rw [h1, Nat.sub_self]
        simp only [List.getElem?_cons_zero, Option.getD_some]
        rw [show e.1.2 = (e.1.2 - 1) + 1 by omega, List.getElem?_cons_succ]; exact h4
      · exact hrec h
    · exact hrec h

theorem famAt_in : ∀ {rs : List Nat} (R : Nat → List Cont) (l : List (List Cont)) {s : Nat}, s ∈ rs → famAt rs (rs.map R ++ l) s = R s
  | [], _, _, _, h => absurd h (by simp)
  | r :: rs, R, l, s, h => by
    simp only [List.map_cons, List.cons_append, famAt]
    cases hb : Nat.beq r s with
    | true =>
      have : r = s := Nat.eq_of_beq_eq_true hb
      subst this; rfl
    | false =>
      rcases List.mem_cons.1 h with rfl | h
      · simp at hb
      · exact famAt_in R l h
theorem famAt_out : ∀ {rs : List Nat} (l : List (List Cont)) {s : Nat}, s ∉ rs → famAt rs l s = []
  | [], l, s, _ => by cases l <;> rfl
  | r :: rs, [], s, _ => rfl
  | r :: rs, f :: l, s, h => by
    simp only [famAt]
    cases hb : Nat.beq r s with
    | true =>
      have : r = s := Nat.eq_of_beq_eq_true hb
      exact absurd (by rw [this]; simp) h
    | false => exact famAt_out l (fun h' => h (List.mem_cons_of_mem _ h'))

theorem backFam_get {bk nw bx : Back} {fams : List (List Cont)} {s : Nat} : ∀ {cs cs' : List Cont} {j : Nat}, backFam bk nw bx fams s j cs = some cs' →
    cs'.length = cs.length ∧ ∀ k c', cs'[k]? = some c' → ∃ c, cs[k]? = some c ∧ ((bk.from s (j + k) = none ∧ c' = c) ∨ ∃ i q, bk.from s (j + k) = some (i, q) ∧
      ((c = .tok ∧ c' = .gone) ∨ (c ≠ .tok ∧ ∃ c0, (fams[i]?).bind (·[q]?) = some c0 ∧ unCont nw bx c0 = some c')))
  | [], cs', j, h => by
    simp only [backFam, Option.some.injEq] at h
    subst h; exact ⟨rfl, by simp⟩
  | c :: cs, cs', j, h => by
    simp only [backFam] at h
    cases hrec : backFam bk nw bx fams s (j + 1) cs with
    | none => simp [hrec] at h
    | some r =>
      obtain ⟨g1, g2⟩ := backFam_get hrec
      simp only [hrec] at h
      have key : ∀ c1, ((bk.from s j = none ∧ c1 = c) ∨ ∃ i q, bk.from s j = some (i, q) ∧ ((c = .tok ∧ c1 = .gone) ∨ (c ≠ .tok ∧ ∃ c0, (fams[i]?).bind (·[q]?) = some c0 ∧ unCont nw bx c0 = some c1))) → cs' = c1 :: r →
          cs'.length = (c :: cs).length ∧ ∀ k c', cs'[k]? = some c' → ∃ c2, (c :: cs)[k]? = some c2 ∧ ((bk.from s (j + k) = none ∧ c' = c2) ∨ ∃ i q, bk.from s (j + k) = some (i, q) ∧
            ((c2 = .tok ∧ c' = .gone) ∨ (c2 ≠ .tok ∧ ∃ c0, (fams[i]?).bind (·[q]?) = some c0 ∧ unCont nw bx c0 = some c'))) := by
        rintro c1 h1 rfl
        refine ⟨by simp [g1], fun k c' hk => ?_⟩
        cases k with
        | zero => simp at hk; subst hk; exact ⟨c, rfl, h1⟩
        | succ k =>
          rw [List.getElem?_cons_succ] at hk ⊢
          rw [show j + (k + 1) = j + 1 + k by omega]
          exact g2 k c' hk
      split at h
      · rename_i hf
        simp only [Option.some.injEq] at h
        exact key c (.inl ⟨hf, rfl⟩) h.symm
      · rename_i i q hf
        split at h
        · simp only [Option.some.injEq] at h
          exact key .gone (.inr ⟨i, q, hf, .inl ⟨rfl, rfl⟩⟩) h.symm
        · rename_i hnt
          split at h
          · rename_i c0 hc0
            split at h
            · rename_i c1 hc1
              simp only [Option.some.injEq] at h
              exact key c1 (.inr ⟨i, q, hf, .inr ⟨hnt, c0, hc0, hc1⟩⟩) h.symm
            · cases h
          · cases h

theorem backFams_get {bk nw bx : Back} {fams : List (List Cont)} {R : Nat → List Cont} {site : Nat} {new : List Cont} : ∀ {rs : List Nat} {fs' : List (List Cont)}, backFams bk nw bx fams rs (rs.map R) = some fs' → site ∉ rs →
    putRes R (rs ++ [site]) (fs' ++ [new]) site = new ∧ (∀ s, s ∉ rs → s ≠ site → putRes R (rs ++ [site]) (fs' ++ [new]) s = R s) ∧
    ∀ s ∈ rs, backFam bk nw bx fams s 0 (R s) = some (putRes R (rs ++ [site]) (fs' ++ [new]) s)
  | [], fs', h, hs => by
    simp only [List.map_nil, backFams, Option.some.injEq] at h
    subst h
    exact ⟨by simp [putRes], fun s _ h => by simp [putRes, setF_other _ _ h], by simp⟩
  | r :: rs, fs', h, hs => by
    simp only [List.map_cons, backFams] at h
    split at h
    · rename_i f fs0 h1 h2
      simp only [Option.some.injEq] at h
      subst h
      simp only [List.mem_cons, not_or] at hs
      obtain ⟨g1, g2, g3⟩ := backFams_get h2 hs.2
      simp only [List.cons_append, putRes]
      refine ⟨by rw [setF_other _ _ hs.1]; exact g1, fun s hr hne => ?_, fun s hm => ?_⟩
      · simp only [List.mem_cons, not_or] at hr
        rw [setF_other _ _ hr.1]; exact g2 s hr.2 hne
      · by_cases he : s = r
        · subst he; rw [setF_same]; exact h1
        · rw [setF_other _ _ he]
          exact g3 s ((List.mem_cons.1 hm).resolve_left he)
    · cases h

theorem dup_idx : ∀ {α : Type} {l : List ((Nat × Nat) × α)}, dupFree (l.map (·.1)) = true → ∀ {i j : Nat} {n : Nat × Nat} {x y : α}, l[i]? = some (n, x) → l[j]? = some (n, y) → i = j
  | _, [], _, i, j, n, x, y, hx, _ => by simp at hx
  | α, a :: l, h, i, j, n, x, y, hx, hy => by
    simp only [List.map_cons, dupFree, Bool.and_eq_true, Bool.not_eq_true'] at h
    obtain ⟨h1, h2⟩ := h
    have hno : ∀ z ∈ l, a.1 ≠ z.1 := by
      intro z hz he
      rw [List.any_eq_false] at h1
      refine h1 z.1 (List.mem_map_of_mem hz) ?_
      rw [he]; simp
    cases i with
    | zero => cases j with
      | zero => rfl
      | succ j =>
        simp only [List.getElem?_cons_zero, Option.some.injEq] at hx
        rw [List.getElem?_cons_succ] at hy
        exact absurd (by rw [hx]) (hno _ (List.mem_of_getElem? hy))
    | succ i => cases j with
      | zero =>
        simp only [List.getElem?_cons_zero, Option.some.injEq] at hy
        rw [List.getElem?_cons_succ] at hx
        exact absurd (by rw [hy]) (hno _ (List.mem_of_getElem? hx))
      | succ j =>
        rw [List.getElem?_cons_succ] at hx hy
        rw [dup_idx h2 hx hy]

theorem isTok_false {c : Option Cont} (h : isTok c = false) : (∃ ls, c = some (.cells ls)) ∨ ∃ k v es, c = some (.map k v es) := by
  unfold isTok at h
  split at h
  · exact .inl ⟨_, rfl⟩
  · exact .inr ⟨_, _, _, rfl⟩
  · cases h

theorem ref_of {m : Mem} {L : Locs} {w : World} {l : Loc} {c : Cont} (h : ContAt m L w l c) (hc : isTok (some c) = false) : isRef l := by
  rcases isTok_false hc with ⟨ls, h'⟩ | ⟨k, v, es, h'⟩
  · cases h'
    obtain ⟨b, off, rfl, _⟩ := h
    exact .inl ⟨b, off, rfl⟩
  · cases h'
    obtain ⟨r, rfl, _⟩ := h
    exact .inr ⟨r, rfl⟩

section
variable {P : Program} {tab : Tab} {m : Mem} {L : Locs} {w : World} {st : St} {a : Act} {o : Oper}

theorem plain_rep {m' : Mem} {L1 L2 : Locs} {m2 : Mem} {x : AV} {v : Value} (h : ARep m' L1 x v) (hp : plainAV x = true) : ARep m2 L2 x v := by
  have hty : ∀ {t : Ty} {cs : List Value} {y : t.den}, RepC m' t cs y → plainTy t = true → RepC m2 t cs y := by
    intro t cs y h
    induction h with
    | int k n h => intro _; exact .int k n h
    | bool b => intro _; exact .bool b
    | str s x h hs => intro _; exact .str s x h hs
    | nil => intro h; cases h
    | list => intro h; cases h
    | st fs cs v h ih => intro hp; exact .st fs cs v (ih (by simpa [plainTy] using hp))
    | cons a b c1 c2 x y h1 h2 ih1 ih2 =>
      intro hp
      simp only [plainTy, Bool.and_eq_true] at hp
      exact .cons a b c1 c2 x y (ih1 hp.1) (ih2 hp.2)
    | json => intro h; cases h
  have hone : ∀ {x : AV} {v : Value}, ARep m' L1 x v → plainAV1 x = true → ARep m2 L2 x v := by
    intro x v h hp
    cases h <;> simp [plainAV1] at hp
    case tt => exact .tt
    case ff => exact .ff
    case d1 t x ha h => exact .d1 _ _ _ ha (hty h hp)
    case d2 t x cs ha h => exact .d2 _ _ _ ha (hty h hp)
  by_cases ht : ∃ ls, x = .tup ls
  · obtain ⟨ls, rfl⟩ := ht
    cases h with
    | tup _ cs hn h =>
      simp only [plainAV, List.all_eq_true] at hp
      exact .tup ls cs hn fun i hi hc => hone (h i hi hc) (hp _ (List.getElem_mem hi))
  · refine hone h ?_
    cases x <;> first | exact hp | (exact absurd ⟨_, rfl⟩ ht)

theorem putRes_self : ∀ {rs : List Nat} {R : Nat → List Cont}, putRes R rs (rs.map R) = R
  | [], R => by simp [putRes]
  | r :: rs, R => by
    simp only [List.map_cons, putRes]
    rw [putRes_self]
    funext s
    by_cases hs : s = r
    · subst hs; simp [setF]
    · exact setF_other _ _ hs

/-- Nothing that was there has changed. -/
theorem did_quiet {rs : List Nat} {R : Nat → List Cont} {w' : World} (ha : Agree m w) (hr : ResAt m L w R) (he : Evo (fun _ _ => False) w m w' m) : Did rs R (putRes R rs (rs.map R)) w m L w' m L := by
  rw [putRes_self]
  refine ⟨he.weaken fun _ _ h => h.elim, L.le_refl, fun s _ => ⟨rfl, fun _ => rfl⟩, fun s j c _ h => (hr.at_ s j c h).kept ha L.le_refl he fun _ _ _ h => h, fun s j c s' j' c' _ _ h h' hne => hr.apart s j c s' j' c' h h' hne, fun s j c hs h b i hf => .inl ⟨s, j, c, hs, h, hf⟩, fun s _ h => hr.no s h⟩

theorem castTo_pel {t : Ty} {ls : List AV} {x : t.den} {cs : List Value} (hr : ReL m L ls cs) (h1 : ∀ c ∈ cs, c.oneCell' = true) (ha : t.agg = true) (hx : castTo t (.st ls) = some x) : RepC m t cs x := by
  have h : ARep m L (.st ls) (.agg ⟨cs⟩) := .st _ cs hr.1 h1 hr.2
  have := castTo_rep h hx
  rcases this.data with ⟨hn, _⟩ | ⟨_, cs', e, h⟩
  · rw [ha] at hn; cases hn
  · cases e; exact h

theorem dataLeaf_rep {x : AV} {v : Value} (h : ARep m L x v) : ARep m L (dataLeaf x) v := by
  cases x <;> first | exact h | exact own_data h

theorem roArg_ok {get : Nat → Nat → Option Cont} {ro : List (Nat × Ty)} {mp : Mem} (hle : m.le mp)
    (hbox : ∀ s j ls v off, get s j = some (.cells ls) → ARep m L (.ptr s j off) v → ∃ b o cs, L s j = .box b o ∧ ReL m L ls cs ∧ (∀ c ∈ cs, c.oneCell' = true) ∧ ∀ k, k < cs.length → mp b (o + k) = cs[k]?)
    (harr : ∀ s j k t xs v, get s j = some (.arr k t xs) → ARep m L (.ms s j k) v → RepC mp (.list t) [v] xs)
    {i : Nat} {x y : AV} (h : roArg get ro i x = some y) : sitesOf y = [] ∧ ∀ v, ARep m L x v → ARep mp L y v := by
  have hother : ∀ {y : AV}, (bif (sitesOf x).isEmpty then some x else none) = some y → sitesOf y = [] ∧ ∀ v, ARep m L x v → ARep mp L y v := by
    intro y h
    cases he : (sitesOf x).isEmpty with
    | false => simp [he] at h
    | true =>
      simp only [he, cond_true, Option.some.injEq] at h
      subst h
      exact ⟨by simpa using he, fun v hv => hv.mono hle L.le_refl⟩
  unfold roArg at h
  split at h
  · rename_i s j off
    split at h
    · rename_i t ls ht hg
      cases hb : (Nat.beq off 0 && Nat.beq ls.length t.size && t.agg) with
      | false => simp [hb] at h
      | true =>
        simp only [hb, cond_true, Option.map_eq_some_iff] at h
        obtain ⟨z, hz, rfl⟩ := h
        simp only [Bool.and_eq_true] at hb
        obtain ⟨⟨hoff, hlen⟩, hagg⟩ := hb
        have hoff := Nat.eq_of_beq_eq_true hoff
        have hlen := Nat.eq_of_beq_eq_true hlen
        subst hoff
        refine ⟨rfl, fun v hv => ?_⟩
        obtain ⟨b, o, cs, hl, hr, h1, hc⟩ := hbox s j ls v 0 hg hv
        cases hv with
        | ptr _ _ _ b' o' hl' =>
        rw [hl] at hl'
        cases hl'
        have hrep := castTo_pel hr h1 hagg hz
        refine .pel t z b o cs (fun k hk => hc k ?_) (hrep.mono hle)
        rw [hr.1, hlen]; exact hk
    · cases h
  · rename_i t xs s j
    simp only [Option.some.injEq] at h
    subst h
    exact ⟨rfl, fun v hv => own_data (hv.mono hle L.le_refl)⟩
  · rename_i s j k
    split at h
    · rename_i k' t xs hg
      cases hk : Nat.beq k k' with
      | false => simp [hk] at h
      | true =>
        have := Nat.eq_of_beq_eq_true hk
        subst this
        simp only [hk, cond_true, Option.some.injEq] at h
        subst h
        exact ⟨rfl, fun v hv => .d1 _ _ _ rfl (harr s j k t xs v hg hv)⟩
    · cases h
  · rename_i ls
    cases he : (sitesOfL (ls.map dataLeaf)).isEmpty with
    | false => simp [he] at h
    | true =>
      simp only [he, cond_true, Option.some.injEq] at h
      subst h
      refine ⟨by simpa [sitesOf] using he, fun v hv => ?_⟩
      cases hv with
      | st _ cs hn h1 hh =>
        refine .st _ cs (by simpa using hn) h1 fun k hk hc => ?_
        have hk' : k < ls.length := by simpa using hk
        rw [List.getElem_map]
        exact dataLeaf_rep ((hh k hk' hc).mono hle L.le_refl)
  · exact hother h

theorem roArgs_ok {get : Nat → Nat → Option Cont} {ro : List (Nat × Ty)} {mp : Mem} (hle : m.le mp)
    (hbox : ∀ s j ls v off, get s j = some (.cells ls) → ARep m L (.ptr s j off) v → ∃ b o cs, L s j = .box b o ∧ ReL m L ls cs ∧ (∀ c ∈ cs, c.oneCell' = true) ∧ ∀ k, k < cs.length → mp b (o + k) = cs[k]?)
    (harr : ∀ s j k t xs v, get s j = some (.arr k t xs) → ARep m L (.ms s j k) v → RepC mp (.list t) [v] xs) :
    ∀ {xs ys : List AV} {i : Nat}, roArgs get ro i xs = some ys → ∀ {vs : List Value}, ReL m L xs vs → ∀ L2 : Locs, ReL mp L2 ys vs
  | [], ys, i, h, vs, hv, L2 => by
    simp only [roArgs, Option.some.injEq] at h
    subst h
    exact ⟨hv.1, fun i hi => absurd hi (by simp)⟩
  | x :: xs, ys, i, h, vs, hv, L2 => by
    simp only [roArgs] at h
    split at h
    · rename_i y ys' h1 h2
      simp only [Option.some.injEq] at h
      subst h
      obtain ⟨v, vs', rfl, hv0, hrest⟩ := hv.head
      obtain ⟨g1, g2⟩ := roArg_ok hle hbox harr h1
      exact .cons (rep_nosites (g2 v hv0) g1) (roArgs_ok hle hbox harr h2 hrest L2)
    · cases h

theorem ro_req (hs : Sim m L st a w) {f : FuncId} {args : List AV} {vs : List Value} (hvs : ReL m L args vs) (hexec : (execOp a.eval o).run P w = (callFunc f ⟨vs⟩).run P w) {fs : FnSpec} (hf : FSound P f fs) (ro : List (Nat × Ty)) :
    OpOk P o a w m L st (roReq fs ro args) := by
  intro v fms' hrun next Q hn
  simp only [roReq] at hrun hn
  generalize addSites [] (sitesOfL args) = rs at hrun hn
  split at hrun
  · rename_i args' hro
    rw [Tree.run_bind, Option.bind_eq_some_iff] at hrun
    obtain ⟨out, hout, hrun⟩ := hrun
    cases hp : plainAV out.res with
    | false => simp [hp] at hrun
    | true =>
      simp only [hp, cond_true, Tree.run_leaf, Option.some.injEq, Prod.mk.injEq] at hrun
      obtain ⟨rfl, rfl⟩ := hrun
      have hget : ∀ (s j : Nat) (c : Cont), (famAt rs (rs.map st.res) s)[j]? = some c → (st.res s)[j]? = some c := by
        intro s j c h
        by_cases hm : s ∈ rs
        · rw [show famAt rs (rs.map st.res) s = st.res s from by have := famAt_in (rs := rs) st.res [] hm; rwa [List.append_nil] at this] at h; exact h
        · rw [famAt_out _ hm] at h; simp at h
      let P0 : Nat → Nat → Prop := fun b i => (∃ s j ls o, (st.res s)[j]? = some (.cells ls) ∧ L s j = .box b o ∧ o ≤ i ∧ i < o + ls.length) ∨ ∃ s j k o n sz lim, L s j = .arr k b o n sz lim ∧ o ≤ i ∧ i < lim
      obtain ⟨mp, hmp⟩ : ∃ mp : Mem, mp = fun b i => match m b i with | some v => some v | none => (open Classical in if P0 b i then w.cell? ⟨b, i, none⟩ else none) := ⟨_, rfl⟩
      have hle : m.le mp := by intro b j v h; rw [hmp]; simp [h]
      have hag : Agree mp w := by
        intro b j v h
        rw [hmp] at h
        dsimp only at h
        split at h
        · rename_i v' hv'
          cases h
          exact hs.agree b j _ hv'
        · split at h
          · exact h
          · cases h
      have hbox : ∀ s j ls v off, (famAt rs (rs.map st.res) s)[j]? = some (.cells ls) → ARep m L (.ptr s j off) v → ∃ b o cs, L s j = .box b o ∧ ReL m L ls cs ∧ (∀ c ∈ cs, c.oneCell' = true) ∧ ∀ k, k < cs.length → mp b (o + k) = cs[k]? := by
        intro s j ls v off hg hv
        have hj := hget s j _ hg
        obtain ⟨b, o, hl, hb, cs, hr, h1, hc⟩ := hs.res.at_ s j _ hj
        refine ⟨b, o, cs, hl, hr, h1, fun k hk => ?_⟩
        obtain ⟨c1, c2, c3⟩ := hc k hk
        rw [hmp]
        simp only [c3]
        rw [if_pos (.inl ⟨s, j, ls, o, hj, hl, by omega, by have := hr.1; omega⟩)]
        exact c1
      have harr : ∀ s j k t xs v, (famAt rs (rs.map st.res) s)[j]? = some (.arr k t xs) → ARep m L (.ms s j k) v → RepC mp (.list t) [v] xs := by
        intro s j k t xs v hg hv
        have hc := hs.res.at_ s j _ (hget s j _ hg)
        obtain ⟨b, o, lm, hl, _, _, _, _, _, hfree, _⟩ := arr_cells hc
        obtain ⟨A, c, rfl, hnc, _, hA⟩ := ms_at hv hl
        refine arr_list hc hl hle (fun q h1 h2 => ?_) hnc hA
        rw [hmp]
        simp only [(hfree q h1 h2).2.2]
        rw [if_pos (.inr ⟨s, j, k, o, _, _, lm, hl, h1, h2⟩)]
      have hargs := roArgs_ok hle hbox harr hro hvs (fun _ _ => .no)
      have hfam : ∀ s, famRes (args'.map fun _ => []) s = [] := by
        intro s
        unfold famRes
        rw [List.getElem?_map]
        cases args'[s]? <;> rfl
      have hres : ResAt mp (fun _ _ => .no) w (famRes (args'.map fun _ => [])) := by
        refine ⟨fun s j c h => ?_, fun s j c s' j' c' h => ?_, fun s _ j => rfl⟩
        · rw [hfam] at h; simp at h
        · rw [hfam] at h; simp at h
      rw [hexec]
      refine hf mp (fun _ _ => .no) w args' _ vs out hag hargs hres hout o a next Q fun v' w' haft => ?_
      obtain ⟨m', L', haft⟩ := haft
      refine hn v' w' m L (plain_rep haft.res hp) (did_quiet hs.agree hs.res ?_)
      have he := haft.evo.weaken (F' := fun _ _ => False) (by
        rintro b i ⟨s, j, c, h, _⟩
        rw [hfam] at h; simp at h)
      exact ⟨he.size, he.os, he.tape, he.output, m.le_refl, fun b j v h => he.agree b j v (he.le b j v (hle b j v h)), fun b j h h' => absurd h' h, he.same⟩
  · simp at hrun

theorem call_req {env : Env} (henv : EnvOk P env) (hs : Sim m L st a w) {f : FuncId} {args : List AV} {site : Nat} {vs : List Value} (hvs : ReL m L args vs) (hexec : (execOp a.eval o).run P w = (callFunc f ⟨vs⟩).run P w) :
    OpOk P o a w m L st (callReq env f args site st.res) := by
  unfold callReq
  split
  · exact failOk
  · rename_i fs hfs
    split
    · exact ro_req hs hvs hexec (henv f fs hfs) _
    rename_i hro
    intro v fms' hrun next Q hn
    dsimp only at hrun hn
    generalize addSites (addSites [] (sitesOfL args)) ((addSites [] (sitesOfL args)).flatMap fun s => (st.res s).flatMap contSites) = rs at hrun hn
    obtain ⟨get, hget⟩ : ∃ get : Nat → Nat → Option Cont, get = fun s j => (famAt rs ((rs ++ [site]).map st.res) s)[j]? := ⟨_, rfl⟩
    rw [← hget] at hrun
    have hfam : ∀ s j c, get s j = some c → s ∈ rs ∧ (st.res s)[j]? = some c := by
      intro s j c h
      rw [hget] at h
      dsimp only at h
      rw [List.map_append] at h
      by_cases hm : s ∈ rs
      · rw [famAt_in _ _ hm] at h; exact ⟨hm, h⟩
      · rw [famAt_out _ hm] at h; simp at h
    have hlast : ((rs ++ [site]).map st.res).getLast? = some (st.res site) := by simp
    have hdrop : ((rs ++ [site]).map st.res).dropLast = rs.map st.res := by simp
    rw [hlast, hdrop] at hrun
    split at hrun
    · rename_i args' fams bk hsite hren
      simp only [Option.some.injEq] at hsite
      cases hd : (dupFree (bk.map (·.1)) && dupFree (bk.map (·.2)) && !(rs.any (Nat.beq site)) && Nat.ble fams.length retSite) with
      | false => simp [hd] at hrun
      | true =>
      simp only [hd, cond_true] at hrun
      simp only [Bool.and_eq_true, Bool.not_eq_true'] at hd
      obtain ⟨⟨⟨hd1, hd2⟩, hd3⟩, hd5⟩ := hd
      have hd5 : fams.length ≤ retSite := Nat.le_of_ble_eq_true hd5
      have hnot : site ∉ rs := by
        intro hm
        rw [List.any_eq_false] at hd3
        exact hd3 site hm (Nat.beq_refl _)
      rw [Tree.run_bind, Option.bind_eq_some_iff] at hrun
      obtain ⟨out, hout, hrun⟩ := hrun
      generalize hfresh : out.ret.zipIdx.map (fun (c, k) => ((retSite, k), c)) ++ freshAll 0 out.fams = fresh at hrun
      generalize hbx : bk.filter (fun p => !isTok ((famAt rs ((rs ++ [site]).map st.res) p.2.1)[p.2.2]?)) = bx at hrun
      cases hle : (Nat.ble out.fams.length retSite && dupFree (fresh.map (·.1))) with
      | false => simp [hle] at hrun
      | true =>
      simp only [hle, cond_true] at hrun
      simp only [Bool.and_eq_true] at hle
      obtain ⟨hle, hd4⟩ := hle
      have hle : out.fams.length ≤ retSite := Nat.le_of_ble_eq_true hle
      split at hrun
      · rename_i r fs' new hr hfs' hnew
        simp only [Tree.run_leaf, Option.some.injEq, Prod.mk.injEq] at hrun
        obtain ⟨rfl, rfl⟩ := hrun
        -- the callee's places
        obtain ⟨Lc, hLc⟩ : ∃ Lc : Locs, Lc = fun i q => match bk.find i q with | some (s, j) => L s j | none => .no := ⟨_, rfl⟩
        have hLcb : ∀ e ∈ bk, Lc e.1.1 e.1.2 = L e.2.1 e.2.2 := by
          intro e he
          rw [hLc]
          dsimp only
          rw [find_of_mem (a := e.1.1) (b := e.1.2) (p := e.2) hd1 he]
        obtain ⟨g1, g2, g3⟩ := renArgs_ok (m := m) (L := L) (Lc := Lc) hren
        have hargs := g3 hLcb vs hvs
        have hentry : ∀ e ∈ bk, e.2.1 ∈ rs ∧ ∃ c c', (famRes fams e.1.1)[e.1.2]? = some c' ∧ (st.res e.2.1)[e.2.2]? = some c ∧ get e.2.1 e.2.2 = some c ∧ Like m L Lc c c' := by
          intro e he
          obtain ⟨_, c, c', h1, h2, h3⟩ := g1 e he
          obtain ⟨h4, h5⟩ := hfam _ _ _ h2
          exact ⟨h4, c, c', by simpa [famRes] using h1, h5, h2, h3 hLcb⟩
        have hRen : Ren m L Lc st.res (famRes fams) (fun i q => bk.find i q) := by
          refine ⟨fun i q c' hc => ?_, fun i q i' q' p h h' => ?_, fun i hi q => ?_⟩
          · rcases g2 i q c' (by simpa [famRes] using hc) with rfl | ⟨p, hp⟩
            · exact .inl rfl
            · rw [Nat.zero_add] at hp
              obtain ⟨_, c, c1, h1, h2, h3, h4⟩ := hentry _ hp
              rw [hc] at h1
              cases h1
              exact .inr (.inr ⟨p.1, p.2, c, find_of_mem hd1 hp, h2, .inl ⟨hLcb _ hp, h4⟩⟩)
          · have := dup_inj hd2 _ (find_mem h) _ (find_mem h') rfl
            simp only [Prod.mk.injEq, and_true] at this
            exact this
          · rw [hLc]
            dsimp only
            cases hf : bk.find i q with
            | none => rfl
            | some p =>
              obtain ⟨_, c, c', h1, _⟩ := hentry _ (find_mem hf)
              dsimp only at h1
              rw [hi] at h1; simp at h1
        have hcres := ren_res hs.res hRen
        rw [hexec]
        refine henv f fs hfs m Lc w args' fams vs out hs.agree hargs hcres hout o a next Q fun v' w' ⟨m', Lc', haft⟩ => ?_
        -- the caller's places behind the call
        obtain ⟨L', hL'⟩ : ∃ L' : Locs, L' = fun s j => if s = site then (match fresh[j]? with | some (nm, _) => Lc' nm.1 nm.2 | none => .no) else L s j := ⟨_, rfl⟩
        have hL'o : ∀ s j, s ≠ site → L' s j = L s j := fun s j h => by rw [hL']; simp [h]
        have hL's : ∀ (j : Nat) (nm : Nat × Nat) (c : Cont), fresh[j]? = some (nm, c) → L' site j = Lc' nm.1 nm.2 := fun j nm c h => by rw [hL']; simp [h]
        have hne : ∀ s, s ∈ rs → s ≠ site := fun s h e => hnot (e ▸ h)
        have hnw : ∀ s j p, (nameFrom site 0 fresh).find s j = some p → L' p.1 p.2 = Lc' s j := by
          intro s j p h
          obtain ⟨i, c, h1, rfl⟩ := nameFrom_find h
          rw [Nat.zero_add]
          exact hL's i _ _ h1
        have hkeepbk : ∀ e ∈ bk, ∀ c, (st.res e.2.1)[e.2.2]? = some c → c ≠ .tok → Lc' e.1.1 e.1.2 = L e.2.1 e.2.2 ∧ isRef (Lc e.1.1 e.1.2) := by
          intro e he c hc hnt
          obtain ⟨_, c1, c', h1, h2, h3, h4⟩ := hentry e he
          rw [hc] at h2
          cases h2
          have href : isRef (L e.2.1 e.2.2) ∧ isTok (some c') = false := by
            have hrl : real c := by
              obtain ⟨c2, k1, k2⟩ := renArgs_real hren e he
              rw [h3] at k1
              cases k1
              exact k2
            cases c <;> simp only [Like] at h4
            case tok => exact absurd rfl hnt
            case cells =>
              obtain ⟨ls', rfl, _⟩ := h4
              exact ⟨ref_of (hs.res.at_ _ _ _ hc) rfl, rfl⟩
            case map =>
              subst h4
              exact ⟨ref_of (hs.res.at_ _ _ _ hc) rfl, rfl⟩
            case arr => rcases hrl with h | ⟨_, h⟩ | ⟨_, _, _, h⟩ <;> cases h
            case iter => rcases hrl with h | ⟨_, h⟩ | ⟨_, _, _, h⟩ <;> cases h
          rw [← hLcb e he] at href ⊢
          exact ⟨haft.keep _ _ _ h1 href.2, href.1⟩
        have hbxf : ∀ s j p, Back.find bx s j = some p → L' p.1 p.2 = Lc' s j := by
          intro s j p h
          have hm := find_mem h
          rw [← hbx, List.mem_filter] at hm
          obtain ⟨hm, hnt⟩ := hm
          obtain ⟨h1, c, c', h2, h3, h4, h5⟩ := hentry _ hm
          have hct : c ≠ .tok := by
            rintro rfl
            rw [hget] at h4
            dsimp only at hnt h4
            rw [h4] at hnt
            simp [isTok] at hnt
          rw [hL'o _ _ (hne _ h1)]
          exact (hkeepbk _ hm c h3 hct).1.symm
        obtain ⟨q1, q2, q3⟩ := backFams_get (R := st.res) (new := new) hfs' hnot
        obtain ⟨n1, n2⟩ := unConts_get hnew
        have hfreshmem : ∀ (j : Nat) (nm : Nat × Nat) (c : Cont), fresh[j]? = some (nm, c) → (outRes out nm.1)[nm.2]? = some c ∧ (nm.1 = retSite ∨ c = .tok) := by
          intro j nm c h
          have hm := List.mem_of_getElem? h
          rw [← hfresh] at hm
          rcases List.mem_append.1 hm with hm | hm
          · simp only [List.mem_map] at hm
            obtain ⟨⟨c1, k⟩, hk, he⟩ := hm
            simp only [Prod.mk.injEq] at he
            obtain ⟨rfl, rfl⟩ := he
            have := List.mk_mem_zipIdx_iff_getElem?.1 hk
            refine ⟨?_, .inl rfl⟩
            simp only [outRes, Nat.beq_refl, cond_true]
            exact this
          · obtain ⟨h1, h2, h3, h4⟩ := freshAll_mem hm
            rw [Nat.sub_zero] at h2 h4
            dsimp only at h3 h4 h2
            subst h3
            refine ⟨?_, .inr rfl⟩
            have : Nat.beq nm.1 retSite = false := by
              cases hb : Nat.beq nm.1 retSite with
              | false => rfl
              | true => have := Nat.eq_of_beq_eq_true hb; omega
            simp only [outRes, this, cond_false]
            exact h4
        -- what the cells of the caller's sites are
        have hclass : ∀ s j c', s ∈ rs ++ [site] → (putRes st.res (rs ++ [site]) (fs' ++ [new]) s)[j]? = some c' →
            c' = .gone ∨ (s ∈ rs ∧ (st.res s)[j]? = some c' ∧ bk.from s j = none) ∨
            ∃ nm c0, (outRes out nm.1)[nm.2]? = some c0 ∧ L' s j = Lc' nm.1 nm.2 ∧ unCont (nameFrom site 0 fresh) bx c0 = some c' ∧
              ((s ∈ rs ∧ (nm, (s, j)) ∈ bk ∧ isRef (Lc' nm.1 nm.2)) ∨ (s = site ∧ fresh[j]? = some (nm, c0))) := by
          intro s j c' hm hc
          rcases List.mem_append.1 hm with hm | hm
          · have := q3 s hm
            obtain ⟨b1, b2⟩ := backFam_get this
            obtain ⟨c, hc0, hh⟩ := b2 j c' hc
            rw [Nat.zero_add] at hh
            rcases hh with ⟨h1, rfl⟩ | ⟨i, q, h1, ⟨rfl, rfl⟩ | ⟨hnt, c0, h2, h3⟩⟩
            · exact .inr (.inl ⟨hm, hc0, h1⟩)
            · exact .inl rfl
            · have he := from_mem h1
              obtain ⟨k1, k2⟩ := hkeepbk _ he c hc0 hnt
              have hi : i < out.fams.length := by
                rcases Nat.lt_or_ge i out.fams.length with h | h
                · exact h
                · rw [List.getElem?_eq_none h] at h2; cases h2
              refine .inr (.inr ⟨(i, q), c0, ?_, ?_, h3, .inl ⟨hm, he, ?_⟩⟩)
              · have : Nat.beq i retSite = false := by
                  cases hb : Nat.beq i retSite with
                  | false => rfl
                  | true => have := Nat.eq_of_beq_eq_true hb; omega
                simp only [outRes, this, cond_false]
                rw [List.getElem?_eq_getElem hi] at h2 ⊢
                exact h2
              · rw [hL'o _ _ (hne _ hm)]; exact k1.symm
              · rw [k1, ← hLcb _ he]; exact k2
          · have : s = site := by simpa using hm
            subst this
            rw [q1] at hc
            obtain ⟨c0, h1, h2⟩ := n2 j c' hc
            rw [List.getElem?_map, Option.map_eq_some_iff] at h1
            obtain ⟨⟨nm, c1⟩, h3, rfl⟩ := h1
            exact .inr (.inr ⟨nm, c1, (hfreshmem _ _ _ h3).1, hL's _ _ _ h3, h2, .inr ⟨rfl, h3⟩⟩)
        have hfeetR : ∀ b i, feet Lc (famRes fams) b i → ∃ s j c, s ∈ rs ++ [site] ∧ (∃ nm, (nm, (s, j)) ∈ bk) ∧ (st.res s)[j]? = some c ∧ foot (L s j) c b i := by
          rintro b i ⟨x, q, c', hc, hf⟩
          rcases g2 x q c' (by simpa [famRes] using hc) with rfl | ⟨p, hp⟩
          · exact absurd hf foot_gone
          · rw [Nat.zero_add] at hp
            obtain ⟨h0, c, c1, h1, h2, h3, h4⟩ := hentry _ hp
            dsimp only at h1 h2 h0
            rw [hc] at h1
            cases h1
            rw [hLcb _ hp] at hf
            exact ⟨p.1, p.2, c, List.mem_append_left _ h0, ⟨_, hp⟩, h2, h4.foot hf⟩
        have hevo : Evo (fun b i => ∃ s j c, s ∈ rs ++ [site] ∧ (st.res s)[j]? = some c ∧ foot (L s j) c b i) w m w' m' :=
          haft.evo.weaken fun b i h => let ⟨s, j, c, h1, _, h2, h3⟩ := hfeetR b i h; ⟨s, j, c, h1, h2, h3⟩
        have hkeep : L.le L' := by
          intro s j h0
          by_cases hss : s = site
          · subst hss; exact absurd (hs.res.no s hsite j) h0
          · exact .inl (hL'o s j hss)
        have hapartA : ∀ s j c, (st.res s)[j]? = some c → bk.from s j = none → ∀ b i, foot (L s j) c b i → ¬ feet Lc (famRes fams) b i := by
          intro s j c hc hno b i hf hf'
          obtain ⟨s', j', c', _, ⟨nm, hnm⟩, h2, h3⟩ := hfeetR b i hf'
          refine hs.res.apart _ _ _ _ _ _ hc h2 ?_ b i hf h3
          intro e
          cases e
          exact from_none hno nm hnm
        have hfeetN : ∀ (nm : Nat × Nat) (c0 c' : Cont), (outRes out nm.1)[nm.2]? = some c0 → unCont (nameFrom site 0 fresh) bx c0 = some c' → ContAt m' L' w' (Lc' nm.1 nm.2) c' ∧ ∀ b i, foot (Lc' nm.1 nm.2) c' b i → foot (Lc' nm.1 nm.2) c0 b i :=
          fun nm c0 c' h1 h2 => un_cont hnw hbxf (haft.has.at_ _ _ _ h1) h2
        refine hn v' w' m' L' (un_rep hnw hbxf haft.res hr) ⟨hevo, hkeep, ?_, ?_, ?_, ?_, ?_⟩
        · intro s hs'
          simp only [List.mem_append, List.mem_singleton, not_or] at hs'
          exact ⟨q2 s hs'.1 hs'.2, fun j => hL'o s j hs'.2⟩
        · intro s j c' hm hc
          rcases hclass s j c' hm hc with rfl | ⟨h1, h2, h3⟩ | ⟨nm, c0, h1, h2, h3, _⟩
          · trivial
          · rw [hL'o _ _ (hne _ h1)]
            exact (hs.res.at_ _ _ _ h2).kept hs.agree hkeep haft.evo fun b i hf => hapartA s j c' h2 h3 b i hf
          · rw [h2]; exact (hfeetN nm c0 c' h1 h3).1
        · intro s j c s2 j2 c2 hm hm2 hc hc2 hne' b i hf hf2
          have cross : ∀ {s j : Nat} {c : Cont} {s2 j2 : Nat} {c2 : Cont}, s ∈ rs → (st.res s)[j]? = some c → bk.from s j = none → foot (L' s j) c b i → ∀ (nm : Nat × Nat) (c0 : Cont), (outRes out nm.1)[nm.2]? = some c0 → L' s2 j2 = Lc' nm.1 nm.2 → unCont (nameFrom site 0 fresh) bx c0 = some c2 → ¬ foot (L' s2 j2) c2 b i := by
            intro s j c s2 j2 c2 h1 h2 h3 hf nm c0 k1 k2 k3 hf2
            rw [hL'o _ _ (hne _ h1)] at hf
            rw [k2] at hf2
            rcases haft.feet b i ⟨nm.1, nm.2, c0, k1, (hfeetN nm c0 c2 k1 k3).2 b i hf2⟩ with h | h
            · exact hapartA s j c h2 h3 b i hf h
            · have := (hs.res.at_ _ _ _ h2).foot_lt hf; omega
          rcases hclass s j c hm hc with rfl | ⟨h1, h2, h3⟩ | ⟨nm, c0, h1, h2, h3, h4⟩
          · exact foot_gone hf
          · rcases hclass s2 j2 c2 hm2 hc2 with rfl | ⟨k1, k2, k3⟩ | ⟨nm2, c02, k1, k2, k3, k4⟩
            · exact foot_gone hf2
            · rw [hL'o _ _ (hne _ h1)] at hf
              rw [hL'o _ _ (hne _ k1)] at hf2
              exact hs.res.apart _ _ _ _ _ _ h2 k2 hne' b i hf hf2
            · exact cross h1 h2 h3 hf nm2 c02 k1 k2 k3 hf2
          · rcases hclass s2 j2 c2 hm2 hc2 with rfl | ⟨k1, k2, k3⟩ | ⟨nm2, c02, k1, k2, k3, k4⟩
            · exact foot_gone hf2
            · exact cross k1 k2 k3 hf2 nm c0 h1 h2 h3 hf
            · rw [h2] at hf
              rw [k2] at hf2
              have hf' := (hfeetN nm c0 c h1 h3).2 b i hf
              have hf2' := (hfeetN nm2 c02 c2 k1 k3).2 b i hf2
              refine haft.has.apart _ _ _ _ _ _ h1 k1 ?_ b i hf' hf2'
              intro e
              simp only [Prod.mk.injEq] at e
              have hnm : nm = nm2 := Prod.ext e.1 e.2
              subst hnm
              have tokref : ∀ {nm : Nat × Nat} {c : Cont} {jj : Nat}, (outRes out nm.1)[nm.2]? = some c → isRef (Lc' nm.1 nm.2) → fresh[jj]? = some (nm, c) → (∃ x, (nm, x) ∈ bk) → False := by
                intro nm c jj u1 u2 u3 ⟨x, u4⟩
                rcases (hfreshmem _ _ _ u3).2 with h | h
                · obtain ⟨_, _, c', g5, _⟩ := hentry _ u4
                  have hlt : nm.1 < fams.length := by
                    rcases Nat.lt_or_ge nm.1 fams.length with h' | h'
                    · exact h'
                    · simp [famRes, List.getElem?_eq_none h'] at g5
                  omega
                · subst h
                  obtain ⟨r, hr', _⟩ := haft.has.at_ _ _ _ u1
                  rw [hr'] at u2
                  rcases u2 with ⟨b, off, h⟩ | ⟨r, h⟩ <;> cases h
              rcases h4 with ⟨u1, u2, u3⟩ | ⟨u1, u2⟩ <;> rcases k4 with ⟨v1, v2, v3⟩ | ⟨v1, v2⟩
              · have := dup_inj hd1 _ u2 _ v2 rfl
                simp only [Prod.mk.injEq, true_and] at this
                exact hne' (Prod.ext this.1 this.2)
              · exact tokref k1 u3 v2 ⟨_, u2⟩
              · exact tokref h1 v3 u2 ⟨_, v2⟩
              · subst u1; subst v1
                exact hne' (by rw [dup_idx hd4 u2 v2])
        · intro s j c' hm hc b i hf
          rcases hclass s j c' hm hc with rfl | ⟨h1, h2, h3⟩ | ⟨nm, c0, h1, h2, h3, _⟩
          · exact absurd hf foot_gone
          · rw [hL'o _ _ (hne _ h1)] at hf
            exact .inl ⟨s, j, c', List.mem_append_left _ h1, h2, hf⟩
          · rw [h2] at hf
            rcases haft.feet b i ⟨nm.1, nm.2, c0, h1, (hfeetN nm c0 c' h1 h3).2 b i hf⟩ with h | h
            · obtain ⟨s', j', c1, k1, _, k2, k3⟩ := hfeetR b i h
              exact .inl ⟨s', j', c1, k1, k2, k3⟩
            · exact .inr h
        · intro s hm hnil j
          rcases List.mem_append.1 hm with hm | hm
          · have := (backFam_get (q3 s hm)).1
            rw [hnil] at this
            rw [hL'o _ _ (hne _ hm)]
            exact hs.res.no s (List.eq_nil_of_length_eq_zero this.symm) j
          · have : s = site := by simpa using hm
            subst this
            rw [q1] at hnil
            rw [hnil] at n1
            have h0 : fresh = [] := by
              have : fresh.length = 0 := by simpa using n1.symm
              exact List.eq_nil_of_length_eq_zero this
            rw [hL', h0]; simp
      · simp at hrun
    · simp at hrun
end
end Go.Proofs.Am

set_option autoImplicit false
set_option linter.unusedVariables false
set_option linter.unusedSimpArgs false
namespace Go.Proofs.Am
open Go.RowKit

section
variable {P : Program} {tab : Tab} {env : Env} (ht : TabOk P tab) (henv : EnvOk P env) {m : Mem} {L : Locs} {w : World} {st : St} {a : Act} {o : Oper}
include ht henv

theorem op_all (hs : Sim m L st a w) : OpOk P o a w m L st (reqOf tab env o st) := by
  cases hc : isCall o with
  | false => exact op_sound ht hs env hc
  | true =>
    unfold isCall at hc
    split at hc
    · rename_i c ho
      split at hc
      · rename_i f hcc
        unfold reqOf
        simp only [ho, hcc]
        cases hfa : fnArgs (evalO st f) (c.args.toList.map (evalO st)) with
        | none => exact failOk
        | some r =>
          obtain ⟨g, args⟩ := r
          simp only
          unfold fnArgs at hfa
          have hf := hs.eval f
          split at hfa
          · rename_i g' x y hfe
            simp only [Option.some.injEq, Prod.mk.injEq] at hfa
            obtain ⟨rfl, rfl⟩ := hfa
            rw [hfe] at hf
            generalize hev : a.eval f = vf at hf
            cases hf with
            | fn _ _ _ va vb ha hb h1 h2 =>
            have hxs : ReL m L x va := ⟨ha, h1⟩
            have hys : ReL m L y vb := ⟨hb, h2⟩
            refine call_req henv hs (vs := va ++ c.args.toList.map a.eval ++ vb) ((hxs.append (hs.evals _)).append hys) ?_
            have e1 : Array.map a.eval c.args = ⟨List.map a.eval c.args.toList⟩ := by apply Array.ext'; simp
            simp [execOp, ho, resolve, hcc, hev, Deferred.ofValue, invoke, e1]
          · cases hfa
      · cases hc
    · cases hc
end
end Go.Proofs.Am

set_option autoImplicit false
set_option linter.unusedVariables false
set_option linter.unusedSimpArgs false
namespace Go.Proofs.Am
open Go.RowKit

/-! ## What an operation looks at -/
section
variable {tab : Tab} {env : Env} {o : Oper} {st st' : St}

theorem map_op {l : List Operand} (h : ∀ x ∈ l, evalO st x = evalO st' x) : l.map (evalO st) = l.map (evalO st') := List.map_congr_left h
theorem map_parts {l : List (Nat × Operand)} (h : ∀ x ∈ l.map (·.2), evalO st x = evalO st' x) : (l.map fun (i, x) => (i, evalO st x)) = l.map fun (i, x) => (i, evalO st' x) :=
  List.map_congr_left fun p hp => by
    obtain ⟨i, x⟩ := p
    simp only [h x (List.mem_map.2 ⟨(i, x), hp, rfl⟩)]

theorem addSite_mem {l : List Nat} {s x : Nat} (h : x ∈ l) : x ∈ addSite l s := by
  unfold addSite
  cases l.any (Nat.beq s) with
  | true => exact h
  | false => exact List.mem_append_left _ h
theorem addSites_mem : ∀ {ss l : List Nat} {x : Nat}, x ∈ l → x ∈ addSites l ss
  | [], _, _, h => h
  | s :: ss, l, x, h => by
    simp only [addSites, List.foldl_cons]
    exact addSites_mem (addSite_mem h)

theorem callReq_res {f : FuncId} {args : List AV} {site : Nat} {res res' : Nat → List Cont} (h : ∀ s ∈ (callReq env f args site res).rs, res' s = res s) : callReq env f args site res' = callReq env f args site res := by
  unfold callReq at h ⊢
  split
  · rfl
  · rename_i fs hfs
    split
    · rfl
    rename_i hro
    rw [hfs] at h
    dsimp only at h
    rw [hro] at h
    dsimp only at h
    have h1 : ((addSites [] (sitesOfL args)).flatMap fun s => (res' s).flatMap contSites) = (addSites [] (sitesOfL args)).flatMap fun s => (res s).flatMap contSites := by
      unfold List.flatMap
      congr 1
      refine List.map_congr_left fun s hs => ?_
      rw [h s (List.mem_append_left _ (addSites_mem hs))]
    simp only [h1]

theorem reqOf_same (h : ∀ x ∈ o.op.operands, evalO st' x = evalO st x) (hr : ∀ s ∈ (reqOf tab env o st).rs, st'.res s = st.res s) : reqOf tab env o st' = reqOf tab env o st := by
  obtain ⟨dst, op, type, pos, after, guard⟩ := o
  cases op <;> simp only [Op.operands] at h <;> (try (simp only [reqOf]; done)) <;> (try (simp only [reqOf] at hr ⊢; simp_all; done))
  case build T ps =>
    simp only [reqOf]
    rw [map_parts (st := st') (st' := st) fun x hx => h x (by simpa using hx)]
  case buildSlice T n ps =>
    simp only [reqOf]
    rw [map_parts (st := st') (st' := st) fun x hx => h x (by simpa using hx)]
  case makeFunc f first caps =>
    cases f <;> simp only [reqOf]
    rw [map_op (st := st') (st' := st) (l := first.toList) fun x hx => h x (by simp at hx; simp [hx]), map_op (st := st') (st' := st) (l := caps.toList) fun x hx => h x (by simp at hx; simp [hx])]
  case makeMap T r =>
    cases r <;> simp only [reqOf]
  case next x b =>
    cases b
    · simp only [reqOf]
    · simp only [reqOf]
      rw [h x (by simp)]
  case slice T x lo hi mx =>
    cases mx <;> simp only [reqOf]
    cases lo <;> cases hi <;> simp_all
  case call c =>
    have hargs : c.args.toList.map (evalO st') = c.args.toList.map (evalO st) := map_op fun x hx => h x (by simp at hx; simp [Call.operands, hx])
    simp only [reqOf] at hr ⊢
    split
    · rename_i hcc
      split
      · rename_i x T ha hT
        rw [h x (by simp [Call.operands, hcc]; rw [← Array.mem_toList_iff, ha]; simp)]
      · rfl
    · rename_i hcc
      split
      · rename_i x y T Tx ha hT
        rw [h x (by simp [Call.operands, hcc]; rw [← Array.mem_toList_iff, ha]; simp), h y (by simp [Call.operands, hcc]; rw [← Array.mem_toList_iff, ha]; simp)]
      · rfl
    · rw [hargs]
    · rw [hargs]
    · rename_i f hcc
      rw [hcc] at hr
      dsimp only at hr
      have hf : evalO st' f = evalO st f := h f (by simp [Call.operands, hcc])
      rw [hf, hargs]
      cases hfa : fnArgs (evalO st f) (c.args.toList.map (evalO st)) with
      | none => rfl
      | some r =>
        obtain ⟨g, args⟩ := r
        rw [hfa] at hr
        exact callReq_res hr
    · rfl

theorem pure_read {t : Tree AV} : (Req.pure t).wr = false ∧ ∀ cs v fs, ((Req.pure t).act cs).run = some (v, fs) → fs = cs := by
  refine ⟨rfl, fun cs v fs h => ?_⟩
  simp only [Req.pure, Tree.run_bind, Tree.run_leaf, Option.bind_eq_some_iff, Option.some.injEq, Prod.mk.injEq] at h
  obtain ⟨_, _, _, h⟩ := h
  exact h.symm

def Reads (r : Req) : Prop := r.wr = false → ∀ cs v fs, (r.act cs).run = some (v, fs) → fs = cs
theorem reads_pure {t : Tree AV} : Reads (.pure t) := fun _ => pure_read.2
theorem reads_fail : Reads .fail := reads_pure
theorem reads_opt {x : Option AV} : Reads (pureOpt x) := by cases x <;> exact reads_pure
theorem reads_wr {r : Req} (h : r.wr = true) : Reads r := fun h' => by rw [h] at h'; cases h'

theorem reads_at {s j k : Nat} {act : (t : Ty) → List t.den → Tree AV} : Reads (atArr s j k act) := by
  intro _ cs v fs h
  simp only [atArr] at h
  split at h
  · split at h
    · cases hk : Nat.beq k _ with
      | false => rw [hk] at h; simp at h
      | true =>
        rw [hk] at h
        simp only [cond_true, Tree.run_bind, Option.bind_eq_some_iff, Tree.run_leaf, Option.some.injEq, Prod.mk.injEq] at h
        obtain ⟨_, _, _, h⟩ := h
        exact h.symm
    · simp at h
  · simp at h

theorem reads_append {bytes site : Nat} {t : Ty} {x : AV} {ys : List t.den} : Reads (appendReq bytes site t x ys) := by
  cases x <;> simp only [appendReq] <;> first
    | exact reads_fail
    | exact reads_wr rfl
    | (unfold appendArr onArr; exact reads_wr rfl)
    | (split <;> first | exact reads_wr rfl | exact reads_fail)

theorem reads_update {T : TypeId} {x i y : AV} : Reads (updateReq tab T x i y) := by
  unfold updateReq
  split
  · exact reads_fail
  · split
    · split <;> first | exact reads_wr rfl | exact reads_fail
    · exact reads_fail

theorem reads_ro {fs : FnSpec} {ro : List (Nat × Ty)} {args : List AV} : Reads (roReq fs ro args) := by
  intro _ cs v fs' h
  simp only [roReq] at h
  split at h
  · rw [Tree.run_bind, Option.bind_eq_some_iff] at h
    obtain ⟨out, _, h⟩ := h
    cases hp : plainAV out.res with
    | false => simp [hp] at h
    | true =>
      simp only [hp, cond_true, Tree.run_leaf, Option.some.injEq, Prod.mk.injEq] at h
      exact h.2.symm
  · simp at h

theorem reads_req : Reads (reqOf tab env o st) := by
  unfold reqOf
  dsimp only
  split <;> try first | exact reads_pure | exact reads_opt | exact reads_fail
  · split
    · cases (List.all _ _) with
      | true => exact reads_wr rfl
      | false => exact reads_fail
    · exact reads_fail
  · split
    · split
      · cases (Nat.beq _ _) with
        | true => exact reads_wr rfl
        | false => exact reads_fail
      · exact reads_fail
    · exact reads_fail
  · unfold buildSliceReq
    split
    · cases (Nat.beq _ _ && Nat.ble _ _) with
      | true =>
        simp only [cond_true]
        split
        · exact reads_wr rfl
        · exact reads_fail
      | false => exact reads_fail
    · exact reads_fail
  · unfold loadReq
    split
    · split
      · cases (fits _ _) with
        | true => exact reads_pure
        | false => exact reads_fail
      · exact reads_fail
    · split
      · exact reads_fail
      · exact reads_at
    · split
      · exact reads_fail
      · intro _ cs v fs h
        dsimp only at h
        split at h
        · split at h
          · split at h
            · simp only [Tree.run_leaf, Option.some.injEq, Prod.mk.injEq] at h
              exact h.2.symm
            · simp at h
          · simp at h
        · simp at h
    · exact reads_fail
  · unfold storeReq
    split
    · split
      · exact reads_fail
      · unfold storeArr
        split
        · exact reads_wr rfl
        · exact reads_fail
    · split
      · exact reads_fail
      · exact reads_wr rfl
    · exact reads_fail
  · split <;> first | exact reads_pure | exact reads_at | exact reads_fail
  · unfold convAV
    split
    · split <;> first | exact reads_pure | exact reads_fail
    · split
      · exact reads_pure
      · split
        · exact reads_pure
        · split <;> first | exact reads_pure | exact reads_fail
        · exact reads_fail
    · split <;> first | exact reads_wr rfl | exact reads_fail
    · exact reads_fail
  · unfold fieldAddrReq
    split
    · split
      · split
        · cases (Nat.beq _ 0) with
          | true => exact reads_fail
          | false => exact reads_at
        · exact reads_fail
      · exact reads_fail
    · exact reads_opt
  · unfold indexAddrReq
    split
    · split <;> first | exact reads_at | exact reads_fail
    · exact reads_pure
  · unfold makeMapReq
    split <;> first | exact reads_wr rfl | exact reads_fail
  · unfold lookupReq
    split
    · exact reads_fail
    · split
      · exact reads_fail
      · split
        · exact reads_pure
        · intro _ cs v fs h
          dsimp only at h
          split at h
          · split at h
            · split at h
              · simp only [Tree.run_leaf, Option.some.injEq, Prod.mk.injEq] at h
                exact h.2.symm
              · simp at h
            · simp at h
          · simp at h
        · exact reads_fail
  · exact reads_update
  · exact reads_update
  · unfold rangeReq
    split <;> first | exact reads_wr rfl | exact reads_fail
  · unfold nextReq
    split <;> first | exact reads_wr rfl | exact reads_fail
  · split <;> first | exact reads_opt | exact reads_fail
  · split
    · split
      · unfold lenReq
        split
        · split <;> first | exact reads_at | exact reads_fail
        · exact reads_pure
      · exact reads_fail
    · split
      · unfold appendOp
        split
        · split
          · split <;> first | exact reads_append | exact reads_fail
          · split <;> first | exact reads_append | exact reads_fail
          · exact reads_fail
        · exact reads_fail
      · exact reads_fail
    · exact reads_pure
    · exact reads_pure
    · split
      · unfold callReq
        split
        · exact reads_fail
        · split
          · exact reads_ro
          · exact reads_wr rfl
      · exact reads_fail
    · exact reads_fail
end
end Go.Proofs.Am

set_option autoImplicit false
set_option linter.unusedVariables false
set_option linter.unusedSimpArgs false
namespace Go.Proofs.Am
open Go.RowKit

/-! ## Runs of operations -/
structure Ran (F Kp : Nat → Nat → Prop) (L0 : Locs) (w0 : World) (m0 : Mem) (N : Nat) (m : Mem) (L : Locs) (st : St) (a : Act) (w : World) : Prop where
  sim : Sim m L st a w
  evo : Evo F w0 m0 w m
  keep : ∀ s j, Kp s j → isRef (L0 s j) ∧ L s j = L0 s j
  feet : ∀ b i, feet L st.res b i → F b i ∨ w0.heap.size ≤ b
  size : a.tmps.size = N

section
variable {F Kp : Nat → Nat → Prop} {L0 : Locs} {w0 : World} {m0 : Mem} {N : Nat} {m : Mem} {L : Locs} {st : St} {a : Act} {w : World}

theorem put_tmps {m' : Mem} {L' : Locs} (hs : ∀ i, ARep m' L' (st.tmps i) (a.tmps.getD i undef)) {v : AV} {v' : Value} (hv : ARep m' L' v v') {dst : Option Nat} (hd : ∀ d, dst = some d → d < a.tmps.size) {R : Nat → List Cont} (i : Nat) :
    ARep m' L' ((putDst ⟨st.tmps, R⟩ dst v).tmps i) ((a.put dst v').tmps.getD i undef) := by
  cases dst with
  | none => exact hs i
  | some d =>
    simp only [putDst, Act.put]
    by_cases hi : i = d
    · subst hi
      rw [setF_same]
      have := hd i rfl
      simpa [this] using hv
    · rw [setF_other _ _ hi]
      have := hs i
      simpa [Array.getElem?_setIfInBounds_ne (Ne.symm hi)] using this

theorem res_putDst {R : Nat → List Cont} {T : Nat → AV} {dst : Option Nat} {v : AV} : (putDst ⟨T, R⟩ dst v).res = R := by cases dst <;> rfl
theorem size_put {dst : Option Nat} {v : Value} : (a.put dst v).tmps.size = a.tmps.size := by cases dst <;> simp [Act.put]
theorem defers_put {dst : Option Nat} {v : Value} : (a.put dst v).defers = a.defers := by cases dst <;> simp [Act.put]

theorem Ran.step (h : Ran F Kp L0 w0 m0 N m L st a w) {rs : List Nat} {fs : List (List Cont)} {v : AV} {v' : Value} {w' : World} {m' : Mem} {L' : Locs} (hv : ARep m' L' v v') (hd : Did rs st.res (putRes st.res rs fs) w m L w' m' L')
    {dst : Option Nat} (hdst : ∀ d, dst = some d → d < N) : Ran F Kp L0 w0 m0 N m' L' (putDst ⟨st.tmps, putRes st.res rs fs⟩ dst v) (a.put dst v') w' where
  sim := {
    defers := by rw [defers_put]; exact h.sim.defers
    tmps := put_tmps (fun i => (h.sim.tmps i).mono hd.evo.le hd.keep) hv (by rw [h.size]; exact hdst)
    agree := hd.evo.agree
    res := by rw [res_putDst]; exact hd.res h.sim.agree h.sim.res }
  evo := h.evo.trans hd.evo fun b i ⟨s, j, c, _, h1, h2⟩ => h.feet b i ⟨s, j, c, h1, h2⟩
  keep s j hr := by
    obtain ⟨hr, h1⟩ := h.keep s j hr
    refine ⟨hr, ?_⟩
    rw [← h1] at hr ⊢
    rcases hd.keep s j (by rcases hr with ⟨b, off, h⟩ | ⟨r, h⟩ <;> rw [h] <;> simp) with h2 | ⟨⟨r, h2⟩, _⟩ | ⟨_, _, _, _, _, _, _, _, _, _, _, _, h2, _⟩
    · exact h2
    · rw [h2] at hr
      rcases hr with ⟨b, off, h⟩ | ⟨r, h⟩ <;> cases h
    · rw [h2] at hr
      rcases hr with ⟨b, off, h⟩ | ⟨r, h⟩ <;> cases h
  feet b i hf := by
    rw [res_putDst] at hf
    obtain ⟨s, j, c, hc, hf⟩ := hf
    by_cases hs : s ∈ rs
    · rcases hd.foot s j c hs hc b i hf with ⟨s', j', c', _, h1, h2⟩ | h1
      · exact h.feet b i ⟨s', j', c', h1, h2⟩
      · exact .inr (Nat.le_trans h.evo.size h1)
    · obtain ⟨h1, h2⟩ := hd.out s hs
      rw [h1] at hc
      rw [h2] at hf
      exact h.feet b i ⟨s, j, c, hc, hf⟩
  size := by rw [size_put]; exact h.size

theorem Ran.skip (h : Ran F Kp L0 w0 m0 N m L st a w) {dst : Option Nat} (hdst : ∀ d, dst = some d → d < N) : Ran F Kp L0 w0 m0 N m L (putDst st dst .undef) (a.put dst undef) w := by
  have := h.step (rs := []) (fs := []) (v := .undef) .undef (Did.nothing h.sim.agree) hdst
  exact this

/-- A tmp known to hold something may be called that. -/
theorem Ran.learn (h : Ran F Kp L0 w0 m0 N m L st a w) {t : Nat} {v : AV} (hv : ARep m L v (a.tmps.getD t undef)) (b : Bool) : Ran F Kp L0 w0 m0 N m L (learnt b st t v) a w := by
  cases b with
  | false => exact h
  | true =>
    refine ⟨⟨h.sim.defers, fun i => ?_, h.sim.agree, h.sim.res⟩, h.evo, h.keep, h.feet, h.size⟩
    simp only [learnt, cond_true]
    by_cases hi : i = t
    · subst hi; rw [setF_same]; exact hv
    · rw [setF_other _ _ hi]; exact h.sim.tmps i

variable {P : Program} {tab : Tab} {env : Env} {ops : Array Oper} {o : Oper} {Q : Exit → Act → World → Prop} {K : Act → World → Prop}

theorem doO_some {st1 : St} {lg : Option (List Nat × Bool)} (h : (doO tab env o st).run = some (st1, lg)) :
    ∃ v fs, ((reqOf tab env o st).act ((reqOf tab env o st).rs.map st.res)).run = some (v, fs) ∧ st1 = putDst ⟨st.tmps, putRes st.res (reqOf tab env o st).rs fs⟩ o.dst v ∧ lg = some ((reqOf tab env o st).rs, (reqOf tab env o st).wr) := by
  simp only [doO, doReq, Tree.run_bind, Tree.run_leaf, Option.bind_eq_some_iff, Option.some.injEq, Prod.mk.injEq] at h
  obtain ⟨st2, ⟨⟨v, fs⟩, h1, h2⟩, h3, h4⟩ := h
  simp only [Tree.run_leaf, Option.some.injEq] at h2
  exact ⟨v, fs, h1, by rw [← h3, ← h2], h4.symm⟩

theorem yield_of {t : Nat} {b : Bool} {g : Nat} (hg : (ops[g]?).bind (·.dst) = some t) (h : a.tmps.getD t undef = .bool b) : yielded ops a.tmps g = some b := by
  unfold yielded
  rw [hg, Option.bind_some]
  cases ht : a.tmps[t]? with
  | none => simp [ht, undef] at h
  | some v =>
    simp [ht] at h
    subst h; rfl
theorem yield_undef {t : Nat} {g : Nat} (hg : (ops[g]?).bind (·.dst) = some t) (h : a.tmps.getD t undef = undef) : yielded ops a.tmps g = none := by
  unfold yielded
  rw [hg, Option.bind_some]
  cases ht : a.tmps[t]? with
  | none => rfl
  | some v =>
    simp [ht] at h
    subst h; rfl

section
variable (ht : TabOk P tab) (henv : EnvOk P env)
include ht henv

theorem do_sound (h : Ran F Kp L0 w0 m0 N m L st a w) {st1 : St} {lg : Option (List Nat × Bool)} (hx : (doO tab env o st).run = some (st1, lg)) (hdst : ∀ d, o.dst = some d → d < N)
    (hk : ∀ m' L' a' w', Ran F Kp L0 w0 m0 N m' L' st1 a' w' → K a' w') : o.wp P a w K Q := by
  obtain ⟨v, fs, h1, h2, _⟩ := doO_some hx
  refine op_all ht henv h.sim v fs h1 K Q fun v' w' m' L' hv hd => ?_
  subst h2
  exact hk m' L' _ w' (h.step hv hd hdst)

theorem exec_sound {learn : Bool} {i : Nat} (ho : ops[i]? = some o) (h : Ran F Kp L0 w0 m0 N m L st a w) {st1 : St} {lg : Option (List Nat × Bool)} (hx : (execO tab env learn ops o st).run = some (st1, lg)) (hdst : ∀ d, o.dst = some d → d < N)
    (hk : ∀ m' L' a' w', Ran F Kp L0 w0 m0 N m' L' st1 a' w' → K a' w') : wpOp P ops Q i K a w := by
  unfold wpOp
  rw [ho]
  dsimp only
  unfold execO at hx
  cases hg : o.guard with
  | none =>
    rw [hg] at hx
    simp only [Region.wanted, hg, if_true]
    exact .inl (do_sound ht henv h hx hdst hk)
  | some gd =>
    obtain ⟨g, want⟩ := gd
    rw [hg] at hx
    dsimp only at hx
    split at hx
    · simp at hx
    · rename_i t htg
      have hT := h.sim.tmps t
      have hgo : ∀ (b : Bool) (st0 : St), Ran F Kp L0 w0 m0 N m L st0 a w → a.tmps.getD t undef = .bool b →
          (bif b == want then doO tab env o st0 else Tree.leaf (putDst st0 o.dst .undef, none)).run = some (st1, lg) → (if Region.wanted o (yielded ops a.tmps) = true then o.wp P a w K Q ∨ (o.asks P a w ∧ LetsOut Q) else K (a.put o.dst undef) w) := by
        intro b st0 h0 hb hy0
        have hy := yield_of (a := a) htg hb
        simp only [Region.wanted, hg, hy]
        cases hbw : b == want with
        | true =>
          rw [hbw] at hy0
          have : b = want := by simpa using hbw
          subst this
          simp only [cond_true] at hy0
          simp only [beq_self_eq_true, if_true]
          exact .inl (do_sound ht henv h0 hy0 hdst hk)
        | false =>
          rw [hbw] at hy0
          simp only [cond_false, Tree.run_leaf, Option.some.injEq, Prod.mk.injEq] at hy0
          have : (some b == some want) = false := by simpa using hbw
          simp only [this, Bool.false_eq_true, if_false]
          obtain ⟨rfl, _⟩ := hy0
          exact hk m L _ w (h0.skip hdst)
      split at hx
      · rename_i he
        rw [he] at hT
        generalize hev : a.tmps.getD t undef = vt at hT
        cases hT
        exact hgo true st h hev hx
      · rename_i he
        rw [he] at hT
        generalize hev : a.tmps.getD t undef = vt at hT
        cases hT
        exact hgo false st h hev hx
      · rename_i he
        rw [he] at hT
        generalize hev : a.tmps.getD t undef = vt at hT
        cases hT
        have hy := yield_undef (a := a) htg hev
        simp only [Region.wanted, hg, hy]
        simp only [Tree.run_leaf, Option.some.injEq, Prod.mk.injEq] at hx
        obtain ⟨rfl, _⟩ := hx
        simp only [show ((none : Option Bool) == some want) = false from rfl, Bool.false_eq_true, if_false]
        exact hk m L _ w (h.skip hdst)
      · split at hx
        · rename_i b hb
          have hev := boolOf_rep hT hb
          simp only [Tree.run_br] at hx
          cases b with
          | true =>
            simp only [cond_true] at hx
            exact hgo true _ (h.learn (by rw [hev]; exact .tt) learn) hev hx
          | false =>
            simp only [cond_false] at hx
            exact hgo false _ (h.learn (by rw [hev]; exact .ff) learn) hev hx
        · simp at hx

/-- Operations in the order in which they are written. -/
theorem execs_sound {learn : Bool} (hdst : ∀ o ∈ ops.toList, ∀ d, o.dst = some d → d < N) : ∀ (l : List Oper) (k : Nat), ops.toList.drop k = l → ∀ {m : Mem} {L : Locs} {st : St} {a : Act} {w : World}, Ran F Kp L0 w0 m0 N m L st a w →
    ∀ {st1 : St} {lg : Log}, (execOs tab env learn ops l st).run = some (st1, lg) → (∀ m' L' a' w', Ran F Kp L0 w0 m0 N m' L' st1 a' w' → Q .normal a' w') → wpOps P ops Q (List.range' k l.length) a w
  | [], k, hl, m, L, st, a, w, h, st1, lg, hx, hk => by
    simp only [execOs, Tree.run_leaf, Option.some.injEq, Prod.mk.injEq] at hx
    obtain ⟨rfl, _⟩ := hx
    exact hk m L a w h
  | o :: l, k, hl, m, L, st, a, w, h, st1, lg, hx, hk => by
    simp only [execOs, Tree.run_bind, Option.bind_eq_some_iff] at hx
    obtain ⟨⟨st2, lg2⟩, h1, h2⟩ := hx
    simp only [Tree.run_bind, Option.bind_eq_some_iff, Tree.run_leaf, Option.some.injEq, Prod.mk.injEq] at h2
    obtain ⟨⟨st3, lg3⟩, h3, h4⟩ := h2
    simp only [Tree.run_leaf, Option.some.injEq, Prod.mk.injEq] at h4
    obtain ⟨rfl, _⟩ := h4
    have ho : ops.toList[k]? = some o := by rw [← List.head?_drop, hl]; rfl
    have hmem : o ∈ ops.toList := List.mem_of_getElem? ho
    simp only [List.length_cons, List.range'_succ]
    rw [wpOps_cons]
    refine exec_sound ht henv (by simpa using ho) h h1 (hdst o hmem) fun m' L' a' w' h' => ?_
    refine execs_sound hdst l (k + 1) ?_ h' h3 hk
    rw [← List.drop_drop, hl]; rfl
end
end
end Go.Proofs.Am

set_option autoImplicit false
set_option linter.unusedVariables false
set_option linter.unusedSimpArgs false
namespace Go.Proofs.Am
open Go.RowKit

/-! ## Regions whose order is drawn -/
section
variable {tab : Tab} {env : Env} {ops : Array Oper}

def logRs : Option (List Nat × Bool) → List Nat
  | some (rs, _) => rs
  | none => []
def logWr : Option (List Nat × Bool) → Bool
  | some (_, w) => w
  | none => false

theorem putRes_out : ∀ {rs : List Nat} {fs : List (List Cont)} {R : Nat → List Cont} {s : Nat}, s ∉ rs → putRes R rs fs s = R s
  | [], _, _, _, _ => by simp [putRes]
  | r :: rs, [], _, _, _ => by simp [putRes]
  | r :: rs, f :: fs, R, s, h => by
    simp only [List.mem_cons, not_or] at h
    simp only [putRes]
    rw [setF_other _ _ h.1]
    exact putRes_out h.2
theorem putRes_congr : ∀ {rs : List Nat} {fs : List (List Cont)} {R R' : Nat → List Cont} {s : Nat}, R s = R' s → putRes R rs fs s = putRes R' rs fs s
  | [], _, _, _, _, h => by simpa [putRes] using h
  | r :: rs, [], _, _, _, h => by simpa [putRes] using h
  | r :: rs, f :: fs, R, R', s, h => by
    simp only [putRes]
    by_cases hs : s = r
    · subst hs; rw [setF_same, setF_same]
    · rw [setF_other _ _ hs, setF_other _ _ hs]
      exact putRes_congr h
theorem putRes_same : ∀ {rs : List Nat} {R R' : Nat → List Cont}, (∀ s ∈ rs, R' s = R s) → putRes R rs (rs.map R') = R
  | [], R, R', _ => by simp [putRes]
  | r :: rs, R, R', h => by
    simp only [List.map_cons, putRes]
    rw [putRes_same fun s hs => h s (List.mem_cons_of_mem _ hs)]
    funext s
    by_cases hs : s = r
    · subst hs; rw [setF_same, h s List.mem_cons_self]
    · rw [setF_other _ _ hs]

theorem tmps_putDst {T : Nat → AV} {R : Nat → List Cont} {dst : Option Nat} {v : AV} {t : Nat} (h : dst ≠ some t) : (putDst ⟨T, R⟩ dst v).tmps t = T t := by
  cases dst with
  | none => rfl
  | some d => simp only [putDst]; exact setF_other _ _ (fun e => h (by rw [e]))

theorem same_eval {o : Oper} {st st' : St} (h : ∀ t ∈ o.looksAt ops, st'.tmps t = st.tmps t) : ∀ x ∈ o.op.operands, evalO st' x = evalO st x := by
  intro x hx
  cases x with
  | tmp t => exact h t (List.mem_append_left _ (List.mem_filterMap.2 ⟨.tmp t, by simpa using hx, rfl⟩))
  | const v => rfl
  | global g => rfl
  | func f => rfl

/-- What an operation does, it does wherever it finds the same. -/
theorem exec_move {o : Oper} {st st1 : St} {lg : Option (List Nat × Bool)} (h : (execO tab env false ops o st).run = some (st1, lg)) :
    ∃ v fs, st1 = putDst ⟨st.tmps, putRes st.res (logRs lg) fs⟩ o.dst v ∧ (logWr lg = false → fs = (logRs lg).map st.res) ∧
    ∀ st', (∀ t ∈ o.looksAt ops, st'.tmps t = st.tmps t) → (∀ s ∈ logRs lg, st'.res s = st.res s) → (execO tab env false ops o st').run = some (putDst ⟨st'.tmps, putRes st'.res (logRs lg) fs⟩ o.dst v, lg) := by
  have hdo : ∀ {st1 : St} {lg}, (doO tab env o st).run = some (st1, lg) → ∃ v fs, st1 = putDst ⟨st.tmps, putRes st.res (logRs lg) fs⟩ o.dst v ∧ (logWr lg = false → fs = (logRs lg).map st.res) ∧
      ∀ st', (∀ t ∈ o.looksAt ops, st'.tmps t = st.tmps t) → (∀ s ∈ logRs lg, st'.res s = st.res s) → (doO tab env o st').run = some (putDst ⟨st'.tmps, putRes st'.res (logRs lg) fs⟩ o.dst v, lg) := by
    intro st1 lg h
    obtain ⟨v, fs, h1, h2, rfl⟩ := doO_some h
    refine ⟨v, fs, h2, fun hw => reads_req hw _ _ _ h1, fun st' ht hr => ?_⟩
    have hreq : reqOf tab env o st' = reqOf tab env o st := reqOf_same (same_eval ht) hr
    have hmap : (reqOf tab env o st).rs.map st'.res = (reqOf tab env o st).rs.map st.res := List.map_congr_left hr
    simp only [doO, doReq, hreq, hmap, Tree.run_bind, h1, Option.bind_some, Tree.run_leaf]
    rfl
  have hskip : ∀ {st1 : St} {lg}, (Tree.leaf (putDst st o.dst .undef, none) : Tree (St × Option (List Nat × Bool))).run = some (st1, lg) → ∃ v fs, st1 = putDst ⟨st.tmps, putRes st.res (logRs lg) fs⟩ o.dst v ∧ (logWr lg = false → fs = (logRs lg).map st.res) ∧
      ∀ st', (Tree.leaf (putDst st' o.dst .undef, none) : Tree (St × Option (List Nat × Bool))).run = some (putDst ⟨st'.tmps, putRes st'.res (logRs lg) fs⟩ o.dst v, lg) := by
    intro st1 lg h
    simp only [Tree.run_leaf, Option.some.injEq, Prod.mk.injEq] at h
    obtain ⟨rfl, rfl⟩ := h
    exact ⟨.undef, [], rfl, fun _ => rfl, fun st' => rfl⟩
  unfold execO at h ⊢
  cases hg : o.guard with
  | none =>
    rw [hg] at h
    exact hdo h
  | some gd =>
    obtain ⟨g, want⟩ := gd
    rw [hg] at h
    dsimp only at h ⊢
    split at h
    · simp at h
    · rename_i t htg
      have hlook : t ∈ o.looksAt ops := by
        unfold Oper.looksAt
        rw [hg]
        exact List.mem_append_right _ (by simp only [htg]; simp)
      have hgo : ∀ b, (bif b == want then doO tab env o st else Tree.leaf (putDst st o.dst .undef, none)).run = some (st1, lg) → ∃ v fs, st1 = putDst ⟨st.tmps, putRes st.res (logRs lg) fs⟩ o.dst v ∧ (logWr lg = false → fs = (logRs lg).map st.res) ∧
          ∀ st', (∀ t ∈ o.looksAt ops, st'.tmps t = st.tmps t) → (∀ s ∈ logRs lg, st'.res s = st.res s) → (bif b == want then doO tab env o st' else Tree.leaf (putDst st' o.dst .undef, none)).run = some (putDst ⟨st'.tmps, putRes st'.res (logRs lg) fs⟩ o.dst v, lg) := by
        intro b hb
        cases hbw : b == want with
        | true =>
          rw [hbw] at hb
          exact hdo hb
        | false =>
          rw [hbw] at hb
          obtain ⟨v, fs, h1, h2, h3⟩ := hskip hb
          exact ⟨v, fs, h1, h2, fun st' _ _ => h3 st'⟩
      split at h
      · rename_i he
        obtain ⟨v, fs, h1, h2, h3⟩ := hgo true h
        refine ⟨v, fs, h1, h2, fun st' k1 k2 => ?_⟩
        rw [k1 t hlook, he]
        exact h3 st' k1 k2
      · rename_i he
        obtain ⟨v, fs, h1, h2, h3⟩ := hgo false h
        refine ⟨v, fs, h1, h2, fun st' k1 k2 => ?_⟩
        rw [k1 t hlook, he]
        exact h3 st' k1 k2
      · rename_i he
        obtain ⟨v, fs, h1, h2, h3⟩ := hskip h
        refine ⟨v, fs, h1, h2, fun st' k1 k2 => ?_⟩
        rw [k1 t hlook, he]
        exact h3 st'
      · rename_i hn1 hn2 hn3
        split at h
        · rename_i b hb
          simp only [Tree.run_br, learnt, cond_false] at h
          have hh : (bif b == want then doO tab env o st else Tree.leaf (putDst st o.dst .undef, none)).run = some (st1, lg) := by cases b <;> exact h
          obtain ⟨v, fs, h1, h2, h3⟩ := hgo b hh
          refine ⟨v, fs, h1, h2, fun st' k1 k2 => ?_⟩
          rw [k1 t hlook]
          have := h3 st' k1 k2
          split
          · rename_i he; exact absurd he hn1
          · rename_i he; exact absurd he hn2
          · rename_i he; exact absurd he hn3
          · simp only [hb, Tree.run_br, learnt, cond_false]
            cases b <;> exact this
        · simp at h

theorem apart_cases {x y : Option (List Nat × Bool)} (h : apartLog x y = true) : (logWr x = false ∧ logWr y = false) ∨ ∀ s ∈ logRs x, s ∉ logRs y := by
  unfold apartLog at h
  split at h
  · rename_i a wa b wb
    simp only [Bool.or_eq_true, Bool.and_eq_true, Bool.not_eq_true'] at h
    rcases h with h | h
    · exact .inl h
    · refine .inr fun s hs hs' => ?_
      unfold disjoint at h
      rw [List.all_eq_true] at h
      have := h s hs
      simp only [Bool.not_eq_true'] at this
      rw [List.any_eq_false] at this
      exact this s hs' (Nat.beq_refl s)
  · rename_i hn
    refine .inr fun s hs hs' => ?_
    cases x with
    | none => simp [logRs] at hs
    | some x => cases y with
      | none => simp [logRs] at hs'
      | some y => exact hn _ _ _ _ rfl rfl

theorem commute {x y : Oper} {st st1 st2 : St} {lx ly : Option (List Nat × Bool)} (h1 : (execO tab env false ops x st).run = some (st1, lx)) (h2 : (execO tab env false ops y st1).run = some (st2, ly))
    (ha : apartLog lx ly = true) (hx : x.apart ops y = true) : ∃ st1', (execO tab env false ops y st).run = some (st1', ly) ∧ (execO tab env false ops x st1').run = some (st2, lx) := by
  obtain ⟨v1, f1, rfl, r1, m1⟩ := exec_move h1
  obtain ⟨v2, f2, rfl, r2, m2⟩ := exec_move h2
  obtain ⟨p1, p2, p3⟩ := Oper.apart_spec hx
  rw [res_putDst] at r2 m2
  have hcase := apart_cases ha
  have hs1 : ∀ s ∈ logRs ly, putRes st.res (logRs lx) f1 s = st.res s := by
    intro s hs
    rcases hcase with ⟨w1, w2⟩ | hd
    · rw [r1 w1, putRes_same fun _ _ => rfl]
    · exact putRes_out fun h => hd s h hs
  have k1 := m2 st (fun t ht => (tmps_putDst (fun e => p1 t e ht)).symm) (fun s hs => (hs1 s hs).symm)
  refine ⟨_, k1, ?_⟩
  have hs2 : ∀ s ∈ logRs lx, putRes st.res (logRs ly) f2 s = st.res s := by
    intro s hs
    rcases hcase with ⟨w1, w2⟩ | hd
    · rw [r2 w2]
      rw [putRes_same fun s hs => hs1 s hs]
    · exact putRes_out (hd s hs)
  have k2 := m1 (putDst ⟨st.tmps, putRes st.res (logRs ly) f2⟩ y.dst v2) (fun t ht => tmps_putDst fun e => p3 t e ht) (by rw [res_putDst]; exact hs2)
  rw [k2, res_putDst]
  congr 2
  have hres : putRes (putRes st.res (logRs ly) f2) (logRs lx) f1 = putRes (putRes st.res (logRs lx) f1) (logRs ly) f2 := by
    rcases hcase with ⟨w1, w2⟩ | hd
    · have e1 : putRes st.res (logRs lx) f1 = st.res := by rw [r1 w1]; exact putRes_same fun _ _ => rfl
      have e2 : putRes st.res (logRs ly) f2 = st.res := by rw [r2 w2, e1]; exact putRes_same fun _ _ => rfl
      rw [e1, e2, e1]
    · funext s
      by_cases hsx : s ∈ logRs lx
      · rw [putRes_out (rs := logRs ly) (hd s hsx)]
        exact putRes_congr (putRes_out (hd s hsx))
      · rw [putRes_out hsx]
        exact (putRes_congr (putRes_out hsx)).symm
  rw [hres]
  cases hdx : x.dst with
  | none => cases hdy : y.dst <;> rfl
  | some dx => cases hdy : y.dst with
    | none => rfl
    | some dy =>
      have hne : dx ≠ dy := fun e => p2 dx hdx (by rw [e]; exact hdy)
      simp only [putDst]
      congr 1
      funext t
      by_cases h1 : t = dx
      · subst h1; rw [setF_same, setF_other _ _ hne, setF_same]
      · rw [setF_other _ _ h1]
        by_cases h2 : t = dy
        · subst h2; rw [setF_same, setF_same]
        · rw [setF_other _ _ h2, setF_other _ _ h2, setF_other _ _ h1]

inductive Runs (tab : Tab) (env : Env) (ops : Array Oper) : List Done → St → St → Prop
  | nil (st : St) : Runs tab env ops [] st st
  | cons (i : Nat) (o : Oper) (lg : Option (List Nat × Bool)) (l : List Done) (st st1 st2 : St) (h : (execO tab env false ops o st).run = some (st1, lg)) (h' : Runs tab env ops l st1 st2) : Runs tab env ops ((i, o, lg) :: l) st st2

theorem Runs.first {x : Done} : ∀ {pre post : List Done} {st st' : St}, Runs tab env ops (pre ++ x :: post) st st' → (∀ y ∈ pre, apartLog y.2.2 x.2.2 = true ∧ y.2.1.apart ops x.2.1 = true) → Runs tab env ops (x :: (pre ++ post)) st st'
  | [], post, st, st', h, _ => h
  | y :: pre, post, st, st', h, hp => by
    cases h with
    | cons i o lg l _ st1 _ h1 h2 =>
      have := Runs.first h2 fun z hz => hp z (List.mem_cons_of_mem _ hz)
      cases this with
      | cons i' o' lg' l' _ st2 _ h3 h4 =>
        obtain ⟨ha, hb⟩ := hp _ List.mem_cons_self
        obtain ⟨st1', g1, g2⟩ := commute h1 h3 ha hb
        exact .cons i' o' lg' _ _ _ _ g1 (.cons i o lg _ _ _ _ g2 h4)

theorem runs_of : ∀ {l : List Oper} {k : Nat} {st st1 : St} {lg : Log}, (execOs tab env false ops l st).run = some (st1, lg) → Runs tab env ops (withLog k l lg) st st1 ∧ lg.length = l.length
  | [], k, st, st1, lg, h => by
    simp only [execOs, Tree.run_leaf, Option.some.injEq, Prod.mk.injEq] at h
    obtain ⟨rfl, rfl⟩ := h
    exact ⟨.nil _, rfl⟩
  | o :: l, k, st, st1, lg, h => by
    simp only [execOs, Tree.run_bind, Option.bind_eq_some_iff] at h
    obtain ⟨⟨st2, lg2⟩, h1, h2⟩ := h
    simp only [Tree.run_bind, Option.bind_eq_some_iff, Tree.run_leaf, Option.some.injEq, Prod.mk.injEq] at h2
    obtain ⟨⟨st3, lg3⟩, h3, h4⟩ := h2
    simp only [Tree.run_leaf, Option.some.injEq, Prod.mk.injEq] at h4
    obtain ⟨rfl, rfl⟩ := h4
    obtain ⟨g1, g2⟩ := runs_of (k := k + 1) h3
    exact ⟨.cons _ _ _ _ _ _ _ h1 g1, by simp [g2]⟩
end
section
variable {tab : Tab} {env : Env} {ops : Array Oper}
theorem known_mem {kn : List (Nat × Bool)} {t : Nat} {b : Bool} (h : knownAt kn t = some b) : (t, b) ∈ kn := by
  induction kn with
  | nil => cases h
  | cons p l ih =>
    obtain ⟨t', b'⟩ := p
    simp only [knownAt] at h
    cases hb : Nat.beq t' t with
    | true =>
      have := Nat.eq_of_beq_eq_true hb
      subst this
      simp only [hb, cond_true, Option.some.injEq] at h
      subst h
      exact List.mem_cons_self
    | false =>
      simp only [hb, cond_false] at h
      exact List.mem_cons_of_mem _ (ih h)

def KnOk (kn : List (Nat × Bool)) (st : St) : Prop := ∀ p ∈ kn, boolOf (st.tmps p.1) = some p.2

theorem kn_put {kn : List (Nat × Bool)} {st st1 : St} {dst : Option Nat} (h : KnOk kn st) (h1 : ∀ i, dst ≠ some i → st1.tmps i = st.tmps i) : KnOk (forget dst kn) st1 := by
  intro p hp
  cases dst with
  | none => rw [h1 _ (by simp)]; exact h p hp
  | some d =>
    simp only [forget, List.mem_filter, Bool.not_eq_true'] at hp
    rw [h1 _ (fun e => by cases e; have := hp.2; simp at this)]
    exact h p hp.1

theorem tmps_put {T : Nat → AV} {R : Nat → List Cont} {dst : Option Nat} {v : AV} {i : Nat} (h : dst ≠ some i) : (putDst ⟨T, R⟩ dst v).tmps i = T i := by
  cases dst with
  | none => rfl
  | some d =>
    have : Nat.beq i d = false := by
      cases hb : Nat.beq i d with
      | false => rfl
      | true => exact absurd (by rw [Nat.eq_of_beq_eq_true hb]) h
    simp [putDst, setF, this]

theorem doO_tmps {o : Oper} {st st1 : St} {lg : Option (List Nat × Bool)} (h : (doO tab env o st).run = some (st1, lg)) (i : Nat) (hi : o.dst ≠ some i) : st1.tmps i = st.tmps i := by
  simp only [doO, doReq, Tree.run_bind, Option.bind_eq_some_iff, Tree.run_leaf, Option.some.injEq] at h
  obtain ⟨st', ⟨⟨v, fs⟩, _, h1⟩, h2⟩ := h
  simp only [Prod.mk.injEq] at h2
  obtain ⟨rfl, _⟩ := h2
  rw [← h1]
  exact tmps_put hi

theorem execM_run : ∀ (l : List Oper) (kn : List (Nat × Bool)) (st : St) (r : St × Log), KnOk kn st → (execOsM tab env ops l kn st).run = some r → (execOs tab env false ops l st).run = some r
  | [], _, _, _, _, h => h
  | o :: l, kn, st, r, hk, h => by
    have hrest : ∀ {kn' : List (Nat × Bool)} {q : St × Option (List Nat × Bool)}, KnOk kn' st → (∀ i, o.dst ≠ some i → q.1.tmps i = st.tmps i) →
        ((execOsM tab env ops l (forget o.dst kn') q.1).bind fun (st'', lgs) => Tree.leaf (st'', q.2 :: lgs)).run = some r →
        ((execOs tab env false ops l q.1).bind fun (st'', lgs) => Tree.leaf (st'', q.2 :: lgs)).run = some r := by
      intro kn' q hk' hq hr
      simp only [Tree.run_bind, Option.bind_eq_some_iff] at hr ⊢
      obtain ⟨x, h1, h2⟩ := hr
      exact ⟨x, execM_run l _ _ _ (kn_put hk' hq) h1, h2⟩
    have hgo : ∀ (b want : Bool) (q : St × Option (List Nat × Bool)), (bif b == want then doO tab env o st else Tree.leaf (putDst st o.dst .undef, none)).run = some q → ∀ i, o.dst ≠ some i → q.1.tmps i = st.tmps i := by
      intro b want q hq i hi
      cases hb : b == want with
      | true => rw [hb] at hq; exact doO_tmps (st1 := q.1) (lg := q.2) hq i hi
      | false =>
        rw [hb] at hq
        simp only [cond_false, Tree.run_leaf, Option.some.injEq] at hq
        subst hq
        exact tmps_put hi
    simp only [execOsM] at h
    simp only [execOs, execO]
    split at h
    · rename_i hg
      try rw [hg]
      try dsimp only
      rw [Tree.run_bind, Option.bind_eq_some_iff] at h ⊢
      obtain ⟨q, h1, h2⟩ := h
      exact ⟨q, h1, hrest hk (fun i hi => doO_tmps (st1 := q.1) (lg := q.2) h1 i hi) h2⟩
    · rename_i j want hg
      try rw [hg]
      try dsimp only
      split at h
      · simp at h
      · rename_i t ht
        try rw [ht]
        try dsimp only
        split at h
        · rename_i hx
          try rw [hx]
          try dsimp only
          rw [Tree.run_bind, Option.bind_eq_some_iff] at h ⊢
          obtain ⟨q, h1, h2⟩ := h
          exact ⟨q, h1, hrest hk (hgo _ _ q h1) h2⟩
        · rename_i hx
          try rw [hx]
          try dsimp only
          rw [Tree.run_bind, Option.bind_eq_some_iff] at h ⊢
          obtain ⟨q, h1, h2⟩ := h
          exact ⟨q, h1, hrest hk (hgo _ _ q h1) h2⟩
        · rename_i hx
          try rw [hx]
          try dsimp only
          rw [Tree.run_bind, Option.bind_eq_some_iff]
          exact ⟨_, rfl, hrest hk (fun i hi => tmps_put hi) h⟩
        · rename_i n1 n2 n3
          have hcase : ∀ b : Bool, boolOf (st.tmps t) = some b → ∀ kn', KnOk kn' st →
              ((bif b == want then doO tab env o st else Tree.leaf (putDst st o.dst .undef, none)).bind fun (r : St × Option (List Nat × Bool)) => (execOsM tab env ops l (forget o.dst kn') r.1).bind fun (st'', lgs) => Tree.leaf (st'', r.2 :: lgs)).run = some r →
              ((match boolOf (st.tmps t) with
                  | some b => Tree.br b (bif true == want then doO tab env o (learnt false st t .tt) else Tree.leaf (putDst (learnt false st t .tt) o.dst .undef, none)) (bif false == want then doO tab env o (learnt false st t .ff) else Tree.leaf (putDst (learnt false st t .ff) o.dst .undef, none))
                  | none => Tree.fail).bind fun x => (execOs tab env false ops l x.1).bind fun x_1 => Tree.leaf (x_1.1, x.2 :: x_1.2)).run = some r := by
            intro b hb kn' hk' hr
            rw [hb]
            dsimp only
            rw [Tree.run_bind, Option.bind_eq_some_iff] at hr ⊢
            obtain ⟨q, h1, h2⟩ := hr
            refine ⟨q, ?_, hrest hk' (hgo _ _ q h1) h2⟩
            cases b <;> exact h1
          split at h
          · rename_i b hkb
            exact hcase b (hk _ (known_mem hkb)) kn hk h
          · split at h
            · rename_i b hb
              cases b with
              | true =>
                have hkn : KnOk ((t, true) :: kn) st := fun p hp => by
                  rcases List.mem_cons.1 hp with rfl | hp
                  · exact hb
                  · exact hk p hp
                have hres := hcase true hb _ hkn h
                rw [hb] at hres
                exact hres
              | false =>
                have hkn : KnOk ((t, false) :: kn) st := fun p hp => by
                  rcases List.mem_cons.1 hp with rfl | hp
                  · exact hb
                  · exact hk p hp
                have hres := hcase false hb _ hkn h
                rw [hb] at hres
                exact hres
            · simp at h

end
end Go.Proofs.Am

set_option autoImplicit false
set_option linter.unusedVariables false
set_option linter.unusedSimpArgs false
namespace Go.Proofs.Am
open Go.RowKit

theorem binds_any {md : Region.Mode} {e : Edge} (h : Region.binds .any e = true) : Region.binds md e = true := by
  unfold Region.binds at h ⊢
  split at h
  · cases h
  · cases h
  · rfl

theorem fold_bits (acc : List Nat) (k : Nat) : ∀ (es : List Edge) (s : Nat), (es.foldl (fun s e => bif Region.binds .any e then s ||| 2 ^ e.on ||| acc.getD e.on 0 else s) s).testBit k = true →
    s.testBit k = true ∨ ∃ e ∈ es, Region.binds .any e = true ∧ (k = e.on ∨ (acc.getD e.on 0).testBit k = true)
  | [], s, h => .inl h
  | e :: es, s, h => by
    rcases fold_bits acc k es _ h with h | ⟨e', he, h⟩
    · dsimp only at h
      cases hb : Region.binds .any e with
      | false => rw [hb] at h; exact .inl h
      | true =>
        rw [hb] at h
        simp only [cond_true, Nat.testBit_or, Bool.or_eq_true] at h
        rcases h with (h | h) | h
        · exact .inl h
        · refine .inr ⟨e, List.mem_cons_self, hb, .inl ?_⟩
          rw [Nat.testBit_two_pow] at h
          exact (of_decide_eq_true h).symm
        · exact .inr ⟨e, List.mem_cons_self, hb, .inr h⟩
    · exact .inr ⟨e', List.mem_cons_of_mem _ he, h⟩

theorem bitsOf_test {acc : List Nat} {o : Oper} {k : Nat} (h : (bitsOf acc o).testBit k = true) : ∃ e ∈ o.after, Region.binds .any e = true ∧ (k = e.on ∨ (acc.getD e.on 0).testBit k = true) := by
  rcases fold_bits acc k _ _ h with h | ⟨e, he, h⟩
  · simp at h
  · exact ⟨e, by simpa using he, h⟩

theorem befores_pre : ∀ (l : List Oper) (acc : List Nat) (j : Nat), j < acc.length → (befores l acc).getD j 0 = acc.getD j 0
  | [], _, _, _ => rfl
  | o :: l, acc, j, h => by
    simp only [befores]
    rw [befores_pre l _ j (by simp; omega)]
    simp [List.getElem?_append_left h]

theorem befores_at : ∀ (l : List Oper) (acc : List Nat) (i : Nat) (o : Oper), l[i]? = some o → (∀ e ∈ o.after, Region.binds .any e = true → e.on < acc.length + i) →
    ∀ k, ((befores l acc).getD (acc.length + i) 0).testBit k = true → ∃ e ∈ o.after, Region.binds .any e = true ∧ (k = e.on ∨ ((befores l acc).getD e.on 0).testBit k = true)
  | [], _, _, _, h, _ => by simp at h
  | o' :: l, acc, 0, o, h, hb => by
    intro k hk
    simp only [List.getElem?_cons_zero, Option.some.injEq] at h
    subst h
    simp only [befores, Nat.add_zero] at hk ⊢
    rw [befores_pre l _ acc.length (by simp)] at hk
    simp only [List.getD_eq_getElem?_getD, List.getElem?_append_right (Nat.le_refl _), Nat.sub_self, List.getElem?_cons_zero, Option.getD_some] at hk
    obtain ⟨e, he, h1, h2⟩ := bitsOf_test hk
    refine ⟨e, he, h1, ?_⟩
    have hlt := hb e he h1
    rw [befores_pre l _ e.on (by simp; omega)]
    rw [Nat.add_zero] at hlt
    simpa [List.getElem?_append_left hlt] using h2
  | o' :: l, acc, i + 1, o, h, hb => by
    intro k hk
    simp only [befores] at hk ⊢
    have hlen : (acc ++ [bitsOf acc o']).length + i = acc.length + (i + 1) := by simp; omega
    rw [← hlen] at hk
    exact befores_at l (acc ++ [bitsOf acc o']) i o (by simpa using h) (fun e he hbd => by rw [hlen]; exact hb e he hbd) k hk

theorem backwardM_at {md : Region.Mode} : ∀ (l : List Oper) (k i : Nat) (o : Oper), backwardM md k l = true → l[i]? = some o → ∀ e ∈ o.after, Region.binds md e = true → e.on < k + i
  | [], _, _, _, _, h => by simp at h
  | o' :: l, k, 0, o, hb, h => by
    simp only [List.getElem?_cons_zero, Option.some.injEq] at h
    subst h
    simp only [backwardM, Bool.and_eq_true, List.all_eq_true] at hb
    intro e he hbd
    have := hb.1 e (by simpa using he)
    rw [hbd] at this
    simpa using this
  | o' :: l, k, i + 1, o, hb, h => by
    simp only [backwardM, Bool.and_eq_true] at hb
    intro e he hbd
    have := backwardM_at l (k + 1) i o hb.2 (by simpa using h) e he hbd
    omega

theorem backward_all {md : Region.Mode} : ∀ (l : List Oper) (k : Nat), backward k l = true → backwardM md k l = true
  | [], _, _ => rfl
  | o :: l, k, h => by
    simp only [backward, backwardM, Bool.and_eq_true, List.all_eq_true] at h ⊢
    exact ⟨fun e he => by rw [h.1 e he]; simp, backward_all l (k + 1) h.2⟩

/-- Something is always ready. -/
def Goes (md : Region.Mode) (ops : Array Oper) : Prop :=
  ∀ listed : Array Bool, listed.size = ops.size → (∃ j, j < ops.size ∧ listed.getD j true = false) → Region.ready md ops listed ≠ []

theorem goes_back {md : Region.Mode} {ops : Array Oper} (hb : backwardM md 0 ops.toList = true) : Goes md ops := by
  intro listed hsz ⟨j, hj, hl⟩ hnil
  -- the first one that is not listed
  have hex : ∃ i, (i < ops.size ∧ listed.getD i true = false) ∧ ∀ k, k < i → ¬ (k < ops.size ∧ listed.getD k true = false) := by
    have key : ∀ n i, i < n → (i < ops.size ∧ listed.getD i true = false) → ∃ i, (i < ops.size ∧ listed.getD i true = false) ∧ ∀ k, k < i → ¬ (k < ops.size ∧ listed.getD k true = false) := by
      intro n
      induction n with
      | zero => intro i hi; omega
      | succ n ih =>
        intro i hi hp
        by_cases h : ∃ k, k < i ∧ (k < ops.size ∧ listed.getD k true = false)
        · obtain ⟨k, h1, h2⟩ := h
          exact ih k (by omega) h2
        · exact ⟨i, hp, fun k hk hkp => h ⟨k, hk, hkp⟩⟩
    exact key (j + 1) j (by omega) ⟨hj, hl⟩
  obtain ⟨i, ⟨hi, hil⟩, hmin⟩ := hex
  have : i ∈ Region.ready md ops listed := by
    refine mem_ready.2 ⟨hil, ops[i], Array.getElem?_eq_getElem hi, fun e he hbd => ?_⟩
    have hon := backwardM_at _ _ _ _ hb (show ops.toList[i]? = some ops[i] by simp [hi]) e he hbd
    rw [Nat.zero_add] at hon
    have hne := hmin e.on hon
    have hlt : e.on < ops.size := by omega
    cases hc : listed.getD e.on true with
    | true =>
      have : e.on < listed.size := by omega
      simpa [this] using hc
    | false => exact absurd ⟨hlt, hc⟩ hne
  rw [hnil] at this
  simp at this

theorem goes_topo {md : Region.Mode} {ops : Array Oper} {σ : List Nat} (h : topoOk md ops.toList σ [] = true) (hall : ∀ i, i < ops.size → i ∈ σ) : Goes md ops := by
  intro listed hsz ⟨j, hj, hl⟩ hnil
  have key : ∀ (σ done : List Nat), topoOk md ops.toList σ done = true → (∀ i ∈ done, i < ops.size ∧ listed.getD i true = true) → (∃ i ∈ σ, listed.getD i true = false) → False := by
    intro σ
    induction σ with
    | nil => intro done _ _ ⟨i, hi, _⟩; simp at hi
    | cons i σ ih =>
      intro done ht hd hex
      simp only [topoOk, Bool.and_eq_true] at ht
      obtain ⟨ht1, ht2⟩ := ht
      split at ht1
      · rename_i o ho
        have ho' : ops[i]? = some o := by simpa using ho
        have hlt : i < ops.size := (Array.getElem?_eq_some_iff.1 ho').1
        cases hc : listed.getD i true with
        | false =>
          have : i ∈ Region.ready md ops listed := by
            refine mem_ready.2 ⟨hc, o, ho', fun e he hbd => ?_⟩
            rw [List.all_eq_true] at ht1
            have := ht1 e (by simpa using he)
            rw [hbd] at this
            simp only [Bool.not_true, Bool.false_or, List.any_eq_true] at this
            obtain ⟨x, hx, hxe⟩ := this
            have hxe := Nat.eq_of_beq_eq_true hxe
            obtain ⟨g1, g2⟩ := hd x hx
            rw [hxe]
            have : x < listed.size := by omega
            simpa [this] using g2
          rw [hnil] at this
          simp at this
        | true =>
          refine ih (i :: done) ht2 (fun x hx => ?_) ?_
          · rcases List.mem_cons.1 hx with rfl | hx
            · exact ⟨hlt, hc⟩
            · exact hd x hx
          · obtain ⟨x, hx, hxl⟩ := hex
            rcases List.mem_cons.1 hx with rfl | hx
            · rw [hc] at hxl; cases hxl
            · exact ⟨x, hx, hxl⟩
      · cases ht1
  exact key σ [] h (by simp) ⟨j, hall j hj, hl⟩

theorem goes_two {md : Region.Mode} {ops : Array Oper} (h : topo2 md ops = true) : Goes md ops := by
  unfold topo2 at h
  simp only [Bool.or_eq_true, Bool.and_eq_true, List.all_eq_true] at h
  rcases h with h | ⟨h1, h2⟩
  · exact goes_back h
  · refine goes_topo h1 fun i hi => ?_
    have := h2 i (by simpa using hi)
    rw [List.any_eq_true] at this
    obtain ⟨x, hx, he⟩ := this
    rw [Nat.eq_of_beq_eq_true he]; exact hx

theorem goes_ord {ops : Array Oper} (h : ordOk ops = true) : ∀ md, Goes md ops := by
  unfold ordOk at h
  simp only [Bool.or_eq_true, Bool.and_eq_true] at h
  obtain ⟨h1, h2⟩ := h
  intro md
  rcases h2 with h2 | ⟨h2, h3⟩
  · exact goes_back (backward_all _ _ h2)
  · cases md with
    | text => exact goes_two h2
    | gc => exact goes_two h3
    | any => exact goes_back h1

theorem orderFree_pairs {ops : Array Oper} {b : List Nat} : ∀ {l : List Done}, orderFree ops b l = true ↔ l.Pairwise fun x y => free1 ops b y x = true
  | [] => by simp [orderFree]
  | x :: l => by simp [orderFree, orderFree_pairs, List.pairwise_cons]

theorem withLog_mem : ∀ {l : List Oper} {lg : Log} {k : Nat}, lg.length = l.length → (∀ x ∈ withLog k l lg, k ≤ x.1 ∧ l[x.1 - k]? = some x.2.1) ∧ (∀ j, j < l.length → ∃ x ∈ withLog k l lg, x.1 = k + j) ∧ (withLog k l lg).Pairwise (fun x y => x.1 < y.1) ∧ (withLog k l lg).length = l.length
  | [], lg, k, _ => by
    refine ⟨?_, ?_, ?_, ?_⟩ <;> simp [withLog]
  | o :: l, [], k, h => by simp at h
  | o :: l, x :: lg, k, h => by
    obtain ⟨g1, g2, g3, g4⟩ := withLog_mem (l := l) (lg := lg) (k := k + 1) (by simpa using h)
    refine ⟨fun y hy => ?_, fun j hj => ?_, ?_, by simp [withLog, g4]⟩
    · simp only [withLog] at hy
      rcases List.mem_cons.1 hy with rfl | hy
      · simp
      · obtain ⟨h1, h2⟩ := g1 y hy
        refine ⟨by omega, ?_⟩
        rw [show y.1 - k = (y.1 - (k + 1)) + 1 by omega, List.getElem?_cons_succ]; exact h2
    · simp only [withLog]
      cases j with
      | zero => exact ⟨_, List.mem_cons_self, rfl⟩
      | succ j =>
        obtain ⟨y, hy, he⟩ := g2 j (by simpa using hj)
        exact ⟨y, List.mem_cons_of_mem _ hy, by omega⟩
    · simp only [withLog, List.pairwise_cons]
      exact ⟨fun y hy => by have := (g1 y hy).1; show k < y.1; omega, g3⟩

theorem getD_both {l : Array Bool} {j : Nat} (h : l.getD j false = true) : l.getD j true = true := by
  rcases Nat.lt_or_ge j l.size with hlt | hge
  · simpa [hlt] using h
  · simp [Array.getElem?_eq_none hge]

section
variable {F Kp : Nat → Nat → Prop} {L0 : Locs} {w0 : World} {m0 : Mem} {N : Nat} {P : Program} {tab : Tab} {env : Env} {ops : Array Oper} {Q : Exit → Act → World → Prop}
variable (ht : TabOk P tab) (henv : EnvOk P env)
include ht henv

theorem any_sound {md : Region.Mode} (hdst : ∀ o ∈ ops.toList, ∀ d, o.dst = some d → d < N) (hb : backwardM .any 0 ops.toList = true) (hgo : Goes md ops) {st1 : St} (hk : ∀ m' L' a' w', Ran F Kp L0 w0 m0 N m' L' st1 a' w' → Q .normal a' w') :
    ∀ (fuel : Nat) (l : List Done) (listed : Array Bool), l.length ≤ fuel → listed.size = ops.size → (∀ x ∈ l, ops[x.1]? = some x.2.1) → (∀ j, j < ops.size → (listed.getD j true = false ↔ ∃ x ∈ l, x.1 = j)) →
    l.Pairwise (fun x y => x.1 < y.1) → l.Pairwise (fun x y => free1 ops (befores ops.toList []) y x = true) → (∀ j, listed.getD j false = true → ∀ k, ((befores ops.toList []).getD j 0).testBit k = true → listed.getD k false = true) →
    ∀ {m : Mem} {L : Locs} {st : St} {a : Act} {w : World}, Runs tab env ops l st st1 → Ran F Kp L0 w0 m0 N m L st a w → wpAny P md ops Q fuel listed a w := by
  intro fuel
  induction fuel with
  | zero =>
    intro l listed hlen hsz h1 h2 h3 h4 h5 m L st a w hrun hran
    have hl : l = [] := List.eq_nil_of_length_eq_zero (by omega)
    subst hl
    cases hrun
    refine ⟨?_, hk m L a w hran⟩
    rw [List.eq_nil_iff_forall_not_mem]
    intro j hj
    obtain ⟨hj1, o, ho, _⟩ := mem_ready.1 hj
    have hlt : j < ops.size := (Array.getElem?_eq_some_iff.1 ho).1
    obtain ⟨x, hx, _⟩ := (h2 j hlt).1 hj1
    simp at hx
  | succ fuel ih =>
    intro l listed hlen hsz h1 h2 h3 h4 h5 m L st a w hrun hran
    refine ⟨fun hnil => ?_, fun i hi => ?_⟩
    · cases l with
      | nil => cases hrun; exact hk m L a w hran
      | cons x l =>
        exfalso
        have hx := h1 x List.mem_cons_self
        have hlt : x.1 < ops.size := (Array.getElem?_eq_some_iff.1 hx).1
        exact hgo listed hsz ⟨x.1, hlt, (h2 x.1 hlt).2 ⟨x, List.mem_cons_self, rfl⟩⟩ hnil
    · obtain ⟨hi1, o, ho, hready⟩ := mem_ready.1 hi
      have hlt : i < ops.size := (Array.getElem?_eq_some_iff.1 ho).1
      obtain ⟨x, hx, hxi⟩ := (h2 i hlt).1 hi1
      obtain ⟨pre, post, rfl⟩ := List.append_of_mem hx
      have hox : x.2.1 = o := by
        have := h1 x hx
        rw [hxi, ho] at this
        exact (Option.some.inj this).symm
      have hback : ∀ e ∈ o.after, Region.binds .any e = true → e.on < i := by
        intro e he hbd
        have := backwardM_at _ _ _ _ hb (by simpa using ho) e he hbd
        omega
      have hbits : ∀ k, ((befores ops.toList []).getD i 0).testBit k = true → listed.getD k false = true := by
        intro k hkb
        have := befores_at ops.toList [] i o (by simpa using ho) (by simpa using hback) k (by simpa using hkb)
        obtain ⟨e, he, g1, g2⟩ := this
        have hl := hready e he (binds_any g1)
        rcases g2 with rfl | g2
        · exact hl
        · exact h5 e.on hl k g2
      have hfree : ∀ y ∈ pre, apartLog y.2.2 x.2.2 = true ∧ y.2.1.apart ops x.2.1 = true := by
        intro y hy
        have hyx := (List.pairwise_append.1 h4).2.2 y hy x List.mem_cons_self
        simp only [free1, Bool.or_eq_true, Bool.and_eq_true] at hyx
        rcases hyx with h | h
        · exfalso
          rw [hxi] at h
          have hl := getD_both (hbits y.1 h)
          have hylt : y.1 < ops.size := (Array.getElem?_eq_some_iff.1 (h1 y (List.mem_append_left _ hy))).1
          have := (h2 y.1 hylt).2 ⟨y, List.mem_append_left _ hy, rfl⟩
          rw [this] at hl; cases hl
        · exact h
      have hfirst := hrun.first hfree
      cases hfirst with
      | cons i' o' lg l' _ st2 _ g1 g2 =>
      dsimp only at hxi hox
      subst hxi; subst hox
      have hsub : (pre ++ post).Sublist (pre ++ (i', o', lg) :: post) := (List.Sublist.refl pre).append (List.sublist_cons_self _ _)
      refine exec_sound ht henv ho hran g1 (hdst o' (by simpa using Array.mem_of_getElem? ho)) fun m' L' a' w' h' => ?_
      refine ih (pre ++ post) (listed.setIfInBounds i' true) ?_ (by simpa using hsz) (fun y hy => h1 y (hsub.subset hy)) (fun j hj => ?_) (h3.sublist hsub) (h4.sublist hsub) (fun j hj k hkb => ?_) g2 h'
      · simp only [List.length_append, List.length_cons] at hlen ⊢
        omega
      · by_cases hji : j = i'
        · subst hji
          have hjl : j < listed.size := by omega
          constructor
          · intro h
            simp [hjl] at h
          · rintro ⟨y, hy, hye⟩
            exfalso
            have hpw := List.pairwise_append.1 h3
            rcases List.mem_append.1 hy with hy | hy
            · have := hpw.2.2 y hy _ List.mem_cons_self
              dsimp only at this; omega
            · have := (List.pairwise_cons.1 hpw.2.1).1 y hy
              dsimp only at this; omega
        · rw [getD_set_ne true (Ne.symm hji), h2 j hj]
          constructor
          · rintro ⟨y, hy, hye⟩
            refine ⟨y, ?_, hye⟩
            rcases List.mem_append.1 hy with hy | hy
            · exact List.mem_append_left _ hy
            · rcases List.mem_cons.1 hy with rfl | hy
              · exact absurd hye.symm hji
              · exact List.mem_append_right _ hy
          · rintro ⟨y, hy, hye⟩
            exact ⟨y, hsub.subset hy, hye⟩
      · by_cases hji : j = i'
        · subst hji
          exact getD_set_true (hbits k hkb)
        · rw [getD_set_ne false (Ne.symm hji)] at hj
          exact getD_set_true (h5 j hj k hkb)

omit ht henv in
theorem Ran.drew {m : Mem} {L : Locs} {st : St} {a : Act} {w : World} (h : Ran F Kp L0 w0 m0 N m L st a w) : Ran F Kp L0 w0 m0 N m L st a { w with drawn := w.drawn + 1 } := by
  have hd : Did [] st.res (putRes st.res [] []) w m L { w with drawn := w.drawn + 1 } m L :=
    ⟨evo_drew h.sim.agree _, L.le_refl, fun s _ => ⟨rfl, fun _ => rfl⟩, fun s j c hs => absurd hs (by simp), fun s j c s' j' c' hs => absurd hs (by simp), fun s j c hs => absurd hs (by simp), fun s hs => absurd hs (by simp)⟩
  exact h.step (v := .junk) (v' := undef) (.junk _) hd (dst := none) (fun d h => by cases h)

/-- A region. -/
theorem region_sound {id : Nat} {draw : Bool} (hdst : ∀ o ∈ ops.toList, ∀ d, o.dst = some d → d < N) {m : Mem} {L : Locs} {st : St} {a : Act} {w : World} (h : Ran F Kp L0 w0 m0 N m L st a w) {st1 : St} (hx : (regionT tab env ops draw st).run = some st1)
    (hk : ∀ m' L' a' w', Ran F Kp L0 w0 m0 N m' L' st1 a' w' → Q .normal a' w') : (Code.region id ops draw).wp P Q a w := by
  simp only [regionT, Tree.run_bind, Option.bind_eq_some_iff] at hx
  obtain ⟨⟨st2, lg⟩, h1, h2⟩ := hx
  cases draw with
  | false =>
    simp only [cond_false, Tree.run_leaf, Option.some.injEq] at h1 h2
    subst h2
    refine wp_region ?_
    have := execs_sound ht henv (learn := true) hdst ops.toList 0 rfl h h1 hk
    rw [List.range_eq_range']
    simpa using this
  | true =>
    simp only [cond_true] at h1 h2
    have h1 := execM_run _ _ _ _ (fun p hp => by cases hp) h1
    cases hc : (ordOk ops && orderFree ops (befores ops.toList []) (withLog 0 ops.toList lg)) with
    | false => simp [hc] at h2
    | true =>
      simp only [hc, cond_true, Tree.run_leaf, Option.some.injEq] at h2
      subst h2
      simp only [Bool.and_eq_true] at hc
      obtain ⟨hruns, hlen⟩ := runs_of (ops := ops) (k := 0) h1
      obtain ⟨g1, g2, g3, g4⟩ := withLog_mem (k := 0) hlen
      have key : ∀ md, wpAny P md ops Q ops.size (Array.replicate ops.size false) a { w with drawn := w.drawn + 1 } := by
        intro md
        have hb1 : backwardM .any 0 ops.toList = true := by
          have := hc.1
          unfold ordOk at this
          simp only [Bool.and_eq_true] at this
          exact this.1
        refine any_sound ht henv hdst hb1 (goes_ord hc.1 md) hk ops.size (withLog 0 ops.toList lg) _ (by rw [g4]; simp) (by simp) (fun x hx => ?_) (fun j hj => ?_) g3 (orderFree_pairs.1 hc.2) (fun j hj => ?_) hruns h.drew
        · have := (g1 x hx).2
          simpa using this
        · constructor
          · intro _
            obtain ⟨x, hx, he⟩ := g2 j (by simpa using hj)
            exact ⟨x, hx, by omega⟩
          · intro _
            simp [hj]
        · by_cases hjs : j < ops.size <;> simp [hjs] at hj
      refine wp_region_draw fun t => ?_
      unfold Region.schedule
      split
      · exact wpAny_sound ops.size t _ a _ (key .any)
      · split
        · exact wpAny_sound ops.size _ _ a _ (key .text)
        · exact wpAny_sound ops.size _ _ a _ (key .gc)
end
end Go.Proofs.Am
