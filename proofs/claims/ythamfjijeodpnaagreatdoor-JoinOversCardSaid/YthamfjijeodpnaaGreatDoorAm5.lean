import Derived.Test.YthamfjijeodpnaaGreatDoorAm4
import Derived.ProofKit
set_option linter.unusedSectionVars false
set_option linter.unusedVariables false
set_option linter.unusedSimpArgs false
set_option autoImplicit false
set_option linter.unusedVariables false
set_option linter.unusedSimpArgs false
namespace Go.Proofs.Am
open Go.RowKit

/-! ## Functions of data, with loops -/
def sp1 (t1 : Ty) (f : t1.den → Tree AV) : Spec := fun args fams => match args, fams with
  | [x], [[]] => match castTo t1 x with
    | some a => (f a).bind fun v => .leaf ⟨v, [[]], []⟩
    | _ => .fail
  | _, _ => .fail
def sp2 (t1 t2 : Ty) (f : t1.den → t2.den → Tree AV) : Spec := fun args fams => match args, fams with
  | [x, y], [[], []] => match castTo t1 x, castTo t2 y with
    | some a, some b => (f a b).bind fun v => .leaf ⟨v, [[], []], []⟩
    | _, _ => .fail
  | _, _ => .fail
def sp3 (t1 t2 t3 : Ty) (f : t1.den → t2.den → t3.den → Tree AV) : Spec := fun args fams => match args, fams with
  | [x, y, z], [[], [], []] => match castTo t1 x, castTo t2 y, castTo t3 z with
    | some a, some b, some c => (f a b c).bind fun v => .leaf ⟨v, [[], [], []], []⟩
    | _, _, _ => .fail
  | _, _ => .fail

/-- What is known of data that came as an argument. -/
def WFl (t : Ty) (v : t.den) : Prop := t.agg = false → WF t v

theorem wf_list {t : Ty} {xs : List t.den} (h : WF (.list t) xs) : xs.length ≤ maxStr := by
  obtain ⟨m, cs, h⟩ := h
  cases h with
  | nil => simp
  | list b off n c xs cs hn hl => omega
theorem wfl_list {t : Ty} {xs : List t.den} (h : WFl (.list t) xs) : xs.length ≤ maxStr := wf_list (h rfl)
theorem wfl_str {xs : List UInt8} (h : WFl .str xs) : xs.length ≤ maxStr := by
  obtain ⟨m, cs, h⟩ := h rfl
  cases h with
  | str s x h hs => subst h; simpa using hs

theorem wfl_cast {t : Ty} {x : AV} {v : t.den} (h : castTo t x = some v) (hw : WFp x) : WFl t v := by
  intro hagg
  have hleaf : leafTo t x = some v ∨ ∃ ls, x = .st ls := by
    cases x <;> simp only [castTo] at h <;> first | exact .inl h | exact .inr ⟨_, rfl⟩
  rcases hleaf with h | ⟨ls, rfl⟩
  · cases x <;> simp only [leafTo, reduceCtorEq] at h
    case d t' v' =>
      split at h
      · rename_i hty _
        subst hty
        simp only [Option.some.injEq] at h
        subst h
        exact hw
      · cases h
    case own t' xs s j =>
      split at h
      · rename_i hty _
        subst hty
        simp only [Option.some.injEq] at h
        subst h
        exact hw
      · cases h
    case nil =>
      cases t <;> simp only [reduceCtorEq, Option.some.injEq] at h
      subst h
      exact ⟨fun _ _ => none, _, .nil _ none 0⟩
    case tt =>
      cases t <;> simp only [reduceCtorEq, Option.some.injEq] at h
      subst h
      exact ⟨fun _ _ => none, _, .bool true⟩
    case ff =>
      cases t <;> simp only [reduceCtorEq, Option.some.injEq] at h
      subst h
      exact ⟨fun _ _ => none, _, .bool false⟩
  · simp [castTo, hagg] at h

section
variable {P : Program} {f : FuncId} {fn : Func} {body : Code} {mt : Meta} {env : Env} (hf : P.funcs[f]? = some fn) (hname : (fn.name == "runtime.NumGoroutine") = false) (hb : fn.body = some body) (ht : TabOk P mt.tab) (henv : EnvOk P env) (hst : staticOk mt fn body = true)
include hf hname hb ht henv hst

theorem fsound1 {t1 : Ty} {g : t1.den → Tree AV} (hcut : mt.cut entry = some ⟨[(0, .d t1)], []⟩)
    (h : ∀ a v, WFl t1 a → (g a).run = some v → ∃ n, exec (seg mt env fn body) n entry [.d t1 a] = some ⟨v, [[]], []⟩) : FSound P f ⟨[], sp1 t1 g, none⟩ := by
  refine fsound hf hname hb ht henv hst fun args fams out hw hs => ?_
  simp only [sp1] at hs
  split at hs
  · rename_i x
    split at hs
    · rename_i a ha
      simp only [Tree.run_bind, Option.bind_eq_some_iff, Tree.run_leaf, Option.some.injEq] at hs
      obtain ⟨v, hv, rfl⟩ := hs
      obtain ⟨n, hn⟩ := h a v (wfl_cast ha (hw _ (by simp))) hv
      exact ⟨_, [.d t1 a], n, hcut, rfl, by simp [normSt, normTm, normRs, normSh, entrySt, ha, srcs, dupFree], hn⟩
    · simp at hs
  · simp at hs

theorem fsound2 {t1 t2 : Ty} {g : t1.den → t2.den → Tree AV} (hcut : mt.cut entry = some ⟨[(0, .d t1), (1, .d t2)], []⟩)
    (h : ∀ a b v, WFl t1 a → WFl t2 b → (g a b).run = some v → ∃ n, exec (seg mt env fn body) n entry [.d t1 a, .d t2 b] = some ⟨v, [[], []], []⟩) : FSound P f ⟨[], sp2 t1 t2 g, none⟩ := by
  refine fsound hf hname hb ht henv hst fun args fams out hw hs => ?_
  simp only [sp2] at hs
  split at hs
  · rename_i x y
    split at hs
    · rename_i a b ha hb'
      simp only [Tree.run_bind, Option.bind_eq_some_iff, Tree.run_leaf, Option.some.injEq] at hs
      obtain ⟨v, hv, rfl⟩ := hs
      obtain ⟨n, hn⟩ := h a b v (wfl_cast ha (hw _ (by simp))) (wfl_cast hb' (hw _ (by simp))) hv
      exact ⟨_, [.d t1 a, .d t2 b], n, hcut, rfl, by simp [normSt, normTm, normRs, normSh, entrySt, ha, hb', srcs, dupFree], hn⟩
    · simp at hs
  · simp at hs

theorem fsound3 {t1 t2 t3 : Ty} {g : t1.den → t2.den → t3.den → Tree AV} (hcut : mt.cut entry = some ⟨[(0, .d t1), (1, .d t2), (2, .d t3)], []⟩)
    (h : ∀ a b c v, WFl t1 a → WFl t2 b → WFl t3 c → (g a b c).run = some v → ∃ n, exec (seg mt env fn body) n entry [.d t1 a, .d t2 b, .d t3 c] = some ⟨v, [[], [], []], []⟩) : FSound P f ⟨[], sp3 t1 t2 t3 g, none⟩ := by
  refine fsound hf hname hb ht henv hst fun args fams out hw hs => ?_
  simp only [sp3] at hs
  split at hs
  · rename_i x y z
    split at hs
    · rename_i a b c ha hb' hc
      simp only [Tree.run_bind, Option.bind_eq_some_iff, Tree.run_leaf, Option.some.injEq] at hs
      obtain ⟨v, hv, rfl⟩ := hs
      obtain ⟨n, hn⟩ := h a b c v (wfl_cast ha (hw _ (by simp))) (wfl_cast hb' (hw _ (by simp))) (wfl_cast hc (hw _ (by simp))) hv
      exact ⟨_, [.d t1 a, .d t2 b, .d t3 c], n, hcut, rfl, by simp [normSt, normTm, normRs, normSh, entrySt, ha, hb', hc, srcs, dupFree], hn⟩
    · simp at hs
  · simp at hs
end

theorem exec_jump {sg : Nat → List AV → Tree Leaf} {n j j' : Nat} {ps ps' : List AV} {o : Out} (h : (sg j ps).run = some (.jump j' ps')) (h' : exec sg n j' ps' = some o) : exec sg (n + 1) j ps = some o := by
  simp only [exec, h, h']
theorem exec_done {sg : Nat → List AV → Tree Leaf} {j : Nat} {ps : List AV} {o : Out} (h : (sg j ps).run = some (.done o)) : exec sg 1 j ps = some o := by
  simp only [exec, h]

/-- From number j on the function ends so. -/
def Ends (sg : Nat → List AV → Tree Leaf) (j : Nat) (ps : List AV) (o : Out) : Prop := ∃ n, exec sg n j ps = some o
theorem Ends.jump {sg : Nat → List AV → Tree Leaf} {j j' : Nat} {ps ps' : List AV} {o : Out} (h : (sg j ps).run = some (.jump j' ps')) (h' : Ends sg j' ps' o) : Ends sg j ps o := by
  obtain ⟨n, hn⟩ := h'
  exact ⟨n + 1, exec_jump h hn⟩
theorem Ends.done {sg : Nat → List AV → Tree Leaf} {j : Nat} {ps : List AV} {o : Out} (h : (sg j ps).run = some (.done o)) : Ends sg j ps o := ⟨1, exec_done h⟩

@[simp] theorem idx_nat {α : Type} (l : List α) (i : Nat) : idx l (i : Int) = l[i]? := by simp [idx]
theorem wrap_i64 {i : Int} (h1 : -9223372036854775808 ≤ i) (h2 : i < 9223372036854775808) : IntKind.i64.wrap i = i := by
  simp only [IntKind.wrap]
  first | omega | (simp [IntKind.wrap, IntKind.bits, IntKind.signed]; omega)
end Go.Proofs.Am

set_option autoImplicit false
set_option linter.unusedVariables false
set_option linter.unusedSimpArgs false
namespace Go.Proofs.Am
open Go.RowKit

/-! ## Arguments as they are handed in -/
def wmem (w : World) : Mem := fun b j => w.cell? ⟨b, j, none⟩

def lastIs (P : Program) (size : Nat) (T : TypeId → Bool) : (TypeId → Bool) × (List Field → Nat → Bool) :=
  (T, fun fs off => match fs with
    | [f] => Nat.beq f.offset off && T f.type && Nat.beq (P.cellsOf f.type) size
    | _ => false)
/-- Is the plain type that of the program's type; of these fields, from this cell on? -/
def tyIs (P : Program) : Ty → (TypeId → Bool) × (List Field → Nat → Bool)
  | .int k => lastIs P 1 fun t => match P.underlying t with | some (.int k') => (kindEq k k').isSome | _ => false
  | .bool => lastIs P 1 fun t => match P.underlying t with | some .bool => true | _ => false
  | .str => lastIs P 1 fun t => match P.underlying t with | some .string => true | _ => false
  | .list a => lastIs P 1 fun t => match P.underlying t with | some (.slice e) => (tyIs P a).1 e && Nat.beq (P.cellsOf e) a.size && !(Nat.beq a.size 0) | _ => false
  | .st fs => lastIs P fs.size fun t => match P.underlying t with | some (.struct fields) => (tyIs P fs).2 fields.toList 0 && Nat.beq (P.cellsOf t) fs.size | _ => false
  | .cons a b => (fun _ => false, fun fs off => match fs with
    | f :: rest => Nat.beq f.offset off && (tyIs P a).1 f.type && Nat.beq (P.cellsOf f.type) a.size && (tyIs P b).2 rest (off + a.size)
    | [] => false)
  | .json => (fun _ => false, fun _ _ => false)

section
variable {H : Type} {enc : TypeId × Value → H} {P : Program} {W : World} {base : Nat} {sp : Nat → Bool} {held : Bool}

theorem cells_get {b : Nat} {a : Addr} {n : Nat} {cs : List Value} (h : W.cells? b a n = some cs) : cs.length = n ∧ ∀ j, j < n → W.cell? (a.add j) = cs[j]? := by
  unfold World.cells? at h
  split at h
  · refine ⟨by simpa using mapM_some_length h, fun j hj => ?_⟩
    exact mapM_some_get h j j (by simp [hj])
  · cases h

abbrev TyA (enc : TypeId × Value → H) (P : Program) (W : World) (base : Nat) (sp : Nat → Bool) (held : Bool) (T : Ty) : Prop :=
  ∀ (t : TypeId) (n : Nat) (cs : List Value) (x : DataW H × List MemPlace), (tyIs P T).1 t = true → DataW.trod enc P W base sp held n t cs = some x → ∃ y, RepC (wmem W) T cs y
abbrev TyB (enc : TypeId × Value → H) (P : Program) (W : World) (base : Nat) (sp : Nat → Bool) (held : Bool) (T : Ty) : Prop :=
  ∀ (fs : List Field) (off n : Nat) (cs : List Value) (xs : List (DataW H × List MemPlace)), (tyIs P T).2 fs off = true → off + T.size = cs.length → xs.length = fs.length →
    (∀ (i : Nat) (f : Field), fs[i]? = some f → DataW.trod enc P W base sp held n f.type ((cs.drop f.offset).take (P.cellsOf f.type)) = xs[i]?) → ∃ y, RepC (wmem W) T (cs.drop off) y

theorem last_b {T : Ty} {F : TypeId → Bool} (he : tyIs P T = lastIs P T.size F) (hA : TyA enc P W base sp held T) : TyB enc P W base sp held T := by
  intro fs off n cs xs hfs hlen hxs hget
  rw [he] at hfs
  simp only [lastIs] at hfs
  split at hfs
  · rename_i f
    simp only [Bool.and_eq_true] at hfs
    have h1 := Nat.eq_of_beq_eq_true hfs.1.1
    have h2 := Nat.eq_of_beq_eq_true hfs.2
    have hg := hget 0 f rfl
    match xs, hxs, hg with
    | [x], _, hg =>
      rw [h1, h2] at hg
      have e : (cs.drop off).take T.size = cs.drop off := List.take_of_length_le (by simp; omega)
      rw [e] at hg
      exact hA f.type n _ x (by rw [he]; exact hfs.1.2) hg
  · cases hfs

theorem ty_ab : ∀ T : Ty, TyA enc P W base sp held T ∧ TyB enc P W base sp held T
  | .int k => by
    have hA : TyA enc P W base sp held (.int k) := by
      intro t n cs x ht hx
      simp only [tyIs, lastIs] at ht
      split at ht
      · rename_i k' hu
        cases hk : kindEq k k' with
        | none => simp [hk] at ht
        | some h =>
          obtain ⟨h⟩ := h
          subst h
          obtain ⟨v, rfl, _, hw⟩ := DataW.trod_int hu hx
          exact ⟨v, .int k v (by simpa [Lit.wf, inRange] using hw)⟩
      · cases ht
    exact ⟨hA, last_b rfl hA⟩
  | .bool => by
    have hA : TyA enc P W base sp held .bool := by
      intro t n cs x ht hx
      simp only [tyIs, lastIs] at ht
      split at ht
      · rename_i hu
        obtain ⟨v, rfl, _⟩ := DataW.trod_bool hu hx
        exact ⟨v, .bool v⟩
      · cases ht
    exact ⟨hA, last_b rfl hA⟩
  | .str => by
    have hA : TyA enc P W base sp held .str := by
      intro t n cs x ht hx
      simp only [tyIs, lastIs] at ht
      split at ht
      · rename_i hu
        obtain ⟨s, rfl, _, hs⟩ := DataW.trod_string hu hx
        exact ⟨s.data.toList, .str s _ rfl (by unfold maxLen at hs; unfold maxStr; omega)⟩
      · cases ht
    exact ⟨hA, last_b rfl hA⟩
  | .list a => by
    have hA : TyA enc P W base sp held (.list a) := by
      intro t n cs x ht hx
      simp only [tyIs, lastIs] at ht
      split at ht
      · rename_i e hu
        simp only [Bool.and_eq_true, Bool.not_eq_true'] at ht
        have hsz := Nat.eq_of_beq_eq_true ht.1.2
        have hz : a.size ≠ 0 := fun h => by rw [h] at ht; simp at ht
        rcases DataW.trod_slice hu hx with ⟨rfl, _⟩ | ⟨ad, len, cap, elems, rest, m, _, rfl, _, _, hlc, hcap, hlen, hel, _⟩
        · exact ⟨[], .nil a none 0⟩
        · obtain ⟨b, off, spot⟩ := ad
          by_cases h0 : len = 0
          · subst h0; exact ⟨[], .nil a _ cap⟩
          have hone : ∀ i, i < len → ∃ (ci : List Value) (y : a.den), W.cells? base (Addr.add ⟨b, off, spot⟩ (i * P.cellsOf e)) (P.cellsOf e) = some ci ∧ RepC (wmem W) a ci y := by
            intro i hi
            have := hel i hi
            rw [List.getElem?_eq_getElem (by omega), Option.bind_eq_some_iff] at this
            obtain ⟨ci, h1, h2⟩ := this
            obtain ⟨y, hy⟩ := (ty_ab a).1 e m ci _ ht.1.1 h2
            exact ⟨ci, y, h1, hy⟩
          have hspot : spot = none := by
            obtain ⟨ci, y, h1, _⟩ := hone 0 (by omega)
            obtain ⟨h2, h3⟩ := cells_get h1
            have h4 := h3 0 (by omega)
            rw [List.getElem?_eq_getElem (by omega)] at h4
            rw [Nat.zero_mul] at h4
            cases spot with
            | none => rfl
            | some q =>
              exfalso
              have : W.cell? ((Addr.add ⟨b, off, some q⟩ 0).add 0) = none := by
                simp only [Addr.add, if_true, World.cell?]
                split <;> simp
              rw [this] at h4
              cases h4
          subst hspot
          have hc : ∀ i, ∃ (ci : List Value) (y : a.den), i < len → (W.cells? base (Addr.add ⟨b, off, none⟩ (i * P.cellsOf e)) (P.cellsOf e) = some ci ∧ RepC (wmem W) a ci y) := by
            intro i
            by_cases hi : i < len
            · obtain ⟨ci, y, h⟩ := hone i hi
              exact ⟨ci, y, fun _ => h⟩
            · obtain ⟨ci, y, h⟩ := hone 0 (by omega)
              exact ⟨ci, y, fun h => absurd h hi⟩
          obtain ⟨cf, hcf⟩ := Classical.axiomOfChoice hc
          obtain ⟨yf, hyf⟩ := Classical.axiomOfChoice hcf
          refine ⟨(List.range len).map yf, .list a b off len cap _ cf (by simp) (by unfold maxLen at hcap; unfold maxStr; omega) hlc (fun i hi => ?_) (fun i hi => ?_)⟩
          · obtain ⟨h1, h2⟩ := hyf i hi
            obtain ⟨h3, h4⟩ := cells_get h1
            refine ⟨by omega, fun j hj => ?_⟩
            have := h4 j (by omega)
            rw [← this, hsz, addr_add, addr_add]
            rfl
          · have hi' : i < len := by simpa using hi
            have := (hyf i hi').2
            simpa using this
      · cases ht
    exact ⟨hA, last_b rfl hA⟩
  | .st fs => by
    have hA : TyA enc P W base sp held (.st fs) := by
      intro t n cs x ht hx
      simp only [tyIs, lastIs] at ht
      split at ht
      · rename_i fields hu
        simp only [Bool.and_eq_true] at ht
        obtain ⟨xs, m, _, _, hlen, hxl, hget⟩ := DataW.trod_struct hu hx
        have hsz := Nat.eq_of_beq_eq_true ht.2
        obtain ⟨y, hy⟩ := (ty_ab fs).2 fields.toList 0 m cs xs ht.1 (by omega) (by simpa using hxl) (fun i f hf => hget i f (by simpa using hf))
        exact ⟨y, .st fs cs y (by simpa using hy)⟩
      · cases ht
    exact ⟨hA, last_b rfl hA⟩
  | .cons a b => by
    refine ⟨fun t n cs x ht hx => by simp [tyIs] at ht, fun fs off n cs xs hfs hlen hxs hget => ?_⟩
    simp only [tyIs] at hfs
    split at hfs
    · rename_i f rest
      simp only [Bool.and_eq_true] at hfs
      obtain ⟨⟨⟨h1, h2⟩, h3⟩, h4⟩ := hfs
      have h1 := Nat.eq_of_beq_eq_true h1
      have h3 := Nat.eq_of_beq_eq_true h3
      simp only [Ty.size] at hlen
      match xs, hxs, hget with
      | x :: xs, hxs, hget =>
        have hg := hget 0 f rfl
        rw [h1, h3] at hg
        obtain ⟨y1, r1⟩ := (ty_ab a).1 f.type n _ x h2 hg
        obtain ⟨y2, r2⟩ := (ty_ab b).2 rest (off + a.size) n cs xs h4 (by omega) (by simpa using hxs) (fun i f' hf => by simpa using hget (i + 1) f' (by simpa using hf))
        have := RepC.cons a b _ _ y1 y2 r1 r2
        rw [← List.drop_drop, List.take_append_drop] at this
        exact ⟨(y1, y2), this⟩
    · cases hfs
  | .json => ⟨fun t n cs x ht => by simp [tyIs] at ht, fun fs off n cs xs hfs => by simp [tyIs] at hfs⟩

/-- An argument that is read as data is represented. -/
theorem arg_rep {L : Locs} {T : Ty} {t : TypeId} {v : Value} {d : DataW H} {ps : List MemPlace} (ht : (tyIs P T).1 t = true) (hv : (T.agg = false ∧ v.cells.toList = [v]) ∨ (T.agg = true ∧ ∃ cs, v = .agg cs)) (h : DataW.Trod enc P W base sp held t v d ps) : ∃ y, ARep (wmem W) L (.d T y) v := by
  obtain ⟨n, hn⟩ := h
  obtain ⟨y, hy⟩ := (ty_ab T).1 t n _ _ ht hn
  rcases hv with ⟨hagg, h1⟩ | ⟨hagg, cs, rfl⟩
  · rw [h1] at hy
    exact ⟨y, .d1 T y v hagg hy⟩
  · exact ⟨y, .d2 T y cs.toList hagg hy⟩
end

/-- A call of a function that keeps hands off. -/
theorem calls_bool {P : Program} {f : FuncId} {fn : Func} {body : Code} {owns : List Nat} {ro : Option (List (Nat × Ty))} {spec : Spec} (hf : P.funcs[f]? = some fn) (hname : (fn.name == "runtime.NumGoroutine") = false) (hb : fn.body = some body) (hs : FSound P f ⟨owns, spec, ro⟩) {W : World} {args : List AV} {fams : List (List Cont)} {vs : List Value} {b : Bool}
    (hargs : ReL (wmem W) (fun _ _ => .no) args vs) (hfams : ∀ s : Nat, famRes fams s = []) (hspec : (spec args fams).run = some ⟨.d .bool b, fams, []⟩) :
    Calls P f ⟨vs⟩ W fun e W' => e = .returned (.bool b) ∧ Below W.heap.size W W' := by
  have hres : ResAt (wmem W) (fun _ _ => .no) W (famRes fams) := by
    refine ⟨fun s j c h => ?_, fun s j c s' j' c' h => ?_, fun s _ j => rfl⟩
    · rw [hfams] at h; simp at h
    · rw [hfams] at h; simp at h
  have h := hs (wmem W) (fun _ _ => .no) W args fams vs _ (fun b j v h => h) hargs hres hspec
  have hgo := h (default : Oper) { tmps := #[], defers := [] } (fun _ _ => True) (fun _ _ _ => False)
  have key : ∀ (o : Oper), o.dst = some 0 → o.upon P ({ tmps := #[undef], defers := [] } : Act) (fun a w' => ∃ v, a.tmps = #[v] ∧ v = .bool b ∧ Below W.heap.size W w') (fun _ _ _ => False) ((callFunc f ⟨vs⟩).run P W) := by
    intro o ho
    refine h o _ _ _ fun v w' ⟨m', L', haft⟩ => ⟨v, ?_, ?_, ?_⟩
    · rw [ho]; rfl
    · have hr := haft.res
      cases hr with
      | d1 _ _ _ _ hr => cases hr; rfl
      | d2 _ _ _ hr => simp [Ty.agg] at hr
    · refine (haft.evo.weaken (F' := fun _ _ => False) ?_).below
      rintro b' i ⟨s, j, c, hc, _⟩
      rw [hfams] at hc
      simp at hc
  have hk := key { (default : Oper) with dst := some 0 } rfl
  rw [run_enter hf hname hb, Oper.upon_enter] at hk
  refine hk.mono fun e w' he => ?_
  match e, he with
  | .returned v, he =>
    obtain ⟨v', h1, h2, h3⟩ := he
    have hvv : v = v' := by
      have h1' : (#[v] : Array Value) = #[v'] := h1
      simpa using h1'
    exact ⟨by rw [hvv, h2], h3⟩
  | .panicked chain, he => exact he.elim
  | .outgrown, he =>
    obtain ⟨_, _, h⟩ := he
    exact h.elim
end Go.Proofs.Am
