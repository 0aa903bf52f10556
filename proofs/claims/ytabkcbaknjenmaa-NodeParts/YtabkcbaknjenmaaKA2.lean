/-
  Part KA2 of the proof: merged texts.
-/
import Derived.Test.YtabkcbaknjenmaaKA1
import Derived.Orders

/-
  AN ABSTRACT MACHINE OVER THE MODEL, part 8b: regions that draw their order: what is to be looked at ahead.
-/
set_option linter.unusedVariables false
set_option linter.unusedSimpArgs false
namespace Go.Proofs.YtabkcbaknjenmaaAM
open Go

/-! ### Which operation stands before which -/
def preds (ops : Array Oper) (j : Nat) : List Nat := match ops[j]? with | some o => (o.after.toList.filter (Region.binds .any)).map (·.on) | none => []
inductive Reach (ops : Array Oper) : Nat → Nat → Prop
  | one {i j : Nat} (h : i ∈ preds ops j) : Reach ops i j
  | more {i k j : Nat} (h : Reach ops i k) (h' : k ∈ preds ops j) : Reach ops i j
/-- The masks of what stands before each operation. -/
def masksFrom (ops : Array Oper) : Nat → Nat → List Nat → List Nat
  | _, 0, acc => acc
  | j, n + 1, acc => masksFrom ops (j + 1) n (acc ++ [(preds ops j).foldl (fun m e => m ||| 2 ^ e ||| acc.getD e 0) 0])
def masks (ops : Array Oper) : List Nat := masksFrom ops 0 ops.size []

theorem foldl_mask (ops : Array Oper) (acc : List Nat) (i j : Nat) : ∀ (l : List Nat) (m : Nat), (l.foldl (fun m e => m ||| 2 ^ e ||| acc.getD e 0) m).testBit i = true → m.testBit i = true ∨ ∃ e ∈ l, i = e ∨ (acc.getD e 0).testBit i = true
  | [], m, h => .inl h
  | e :: l, m, h => by
    rcases foldl_mask ops acc i j l _ h with h | ⟨e', he, h⟩
    · simp only [Nat.testBit_or, Bool.or_eq_true] at h
      rcases h with (h | h) | h
      · exact .inl h
      · rw [Nat.testBit_two_pow] at h
        exact .inr ⟨e, by simp, .inl (Eq.symm (by simpa using h))⟩
      · exact .inr ⟨e, by simp, .inr h⟩
    · exact .inr ⟨e', by simp [he], h⟩
theorem masksFrom_reach (ops : Array Oper) : ∀ (n j : Nat) (acc : List Nat), acc.length = j → (∀ (i k : Nat), (acc.getD k 0).testBit i = true → Reach ops i k) → ∀ (i k : Nat), ((masksFrom ops j n acc).getD k 0).testBit i = true → Reach ops i k
  | 0, j, acc, _, h, i, k, hb => h i k hb
  | n + 1, j, acc, hl, h, i, k, hb => by
    refine masksFrom_reach ops n (j + 1) _ (by simp [hl]) (fun i k hk => ?_) i k hb
    rw [List.getD_eq_getElem?_getD, List.getElem?_append] at hk
    split at hk
    · exact h i k (by rw [List.getD_eq_getElem?_getD]; exact hk)
    · rename_i hkl
      by_cases hkj : k = acc.length
      · subst hkj
        simp at hk
        rcases foldl_mask ops acc i j _ _ hk with hk | ⟨e, he, hk⟩
        · simp at hk
        · rw [hl]
          rcases hk with rfl | hk
          · exact .one he
          · exact .more (h i e hk) he
      · have : k - acc.length ≠ 0 := by omega
        have hnone : ([(preds ops j).foldl (fun m e => m ||| 2 ^ e ||| acc.getD e 0) 0] : List Nat)[k - acc.length]? = none := by rw [List.getElem?_eq_none_iff]; simp; omega
        rw [hnone] at hk
        simp at hk
theorem masks_reach (ops : Array Oper) {i k : Nat} (h : ((masks ops).getD k 0).testBit i = true) : Reach ops i k :=
  masksFrom_reach ops ops.size 0 [] rfl (fun i k h => by simp at h) i k h

/-- The slots that an operation reads or writes. -/
def slotsOf (ops : Array Oper) (o : Oper) : List Nat :=
  (o.op.operands.toList.filterMap fun | .tmp t => some t | _ => none) ++ (match o.guard with | some (g, _) => ((ops[g]?).bind (·.dst)).toList | none => []) ++ o.dst.toList
def drawOp : Op → Bool
  | .defer _ | .panic _ => false
  | .call ⟨.builtin .recover, _, _⟩ => false
  | _ => true
/-- Edges lead from before; what shares a slot that one of both writes is ordered; nothing is deferred. -/
def slotsOk (ops : Array Oper) : Bool :=
  let l := ops.toList
  let ms := masks ops
  let sl := l.map (slotsOf ops)
  (List.range ops.size).all fun j => match l[j]? with
    | some oj => drawOp oj.op && (preds ops j).all (· < j) && (match oj.guard with | some (g, _) => g < j | none => true) &&
      (List.range j).all fun i => match l[i]? with
        | some oi => (oi.dst.toList.all fun d => !(sl.getD j []).contains d || ((ms.getD j 0).testBit i)) && (oj.dst.toList.all fun d => !(sl.getD i []).contains d || ((ms.getD j 0).testBit i))
        | none => true
    | none => true

structure Slots (ops : Array Oper) : Prop where
  low : ∀ j, ∀ i ∈ preds ops j, i < j
  draw : ∀ (j : Nat) (o : Oper), ops[j]? = some o → drawOp o.op = true
  clash : ∀ (i j : Nat) (oi oj : Oper), i < j → ops[i]? = some oi → ops[j]? = some oj → (∃ d, (oi.dst = some d ∧ d ∈ slotsOf ops oj) ∨ (oj.dst = some d ∧ d ∈ slotsOf ops oi)) → Reach ops i j
theorem slotsOk_spec {ops : Array Oper} (h : slotsOk ops = true) : Slots ops := by
  unfold slotsOk at h
  rw [List.all_eq_true] at h
  have at_ : ∀ (j : Nat) (o : Oper), ops[j]? = some o → (drawOp o.op = true ∧ (∀ i ∈ preds ops j, i < j)) ∧ ∀ (i : Nat) (oi : Oper), i < j → ops[i]? = some oi → (∀ d, oi.dst = some d → d ∈ slotsOf ops o → ((masks ops).getD j 0).testBit i = true) ∧ (∀ d, o.dst = some d → d ∈ slotsOf ops oi → ((masks ops).getD j 0).testBit i = true) := by
    intro j o ho
    have hj : j < ops.size := (Array.getElem?_eq_some_iff.1 ho).1
    have := h j (by simpa using hj)
    have hol : ops.toList[j]? = some o := by simpa using ho
    simp only [hol, Bool.and_eq_true] at this
    obtain ⟨⟨⟨a1, a2⟩, _⟩, a4⟩ := this
    refine ⟨⟨a1, fun i hi => by simpa using List.all_eq_true.1 a2 i hi⟩, fun i oi hi hoi => ?_⟩
    have h2 := List.all_eq_true.1 a4 i (by simpa using hi)
    have hoil : ops.toList[i]? = some oi := by simpa using hoi
    simp only [hoil, Bool.and_eq_true] at h2
    have sj : (ops.toList.map (slotsOf ops)).getD j [] = slotsOf ops o := by rw [List.getD_eq_getElem?_getD, List.getElem?_map, hol]; rfl
    have si : (ops.toList.map (slotsOf ops)).getD i [] = slotsOf ops oi := by rw [List.getD_eq_getElem?_getD, List.getElem?_map, hoil]; rfl
    rw [sj, si] at h2
    constructor
    · intro d hd hm
      have := List.all_eq_true.1 h2.1 d (by simp [hd])
      have hc : (slotsOf ops o).contains d = true := by simpa using hm
      rw [hc] at this
      simpa using this
    · intro d hd hm
      have := List.all_eq_true.1 h2.2 d (by simp [hd])
      have hc : (slotsOf ops oi).contains d = true := by simpa using hm
      rw [hc] at this
      simpa using this
  refine ⟨fun j i hi => ?_, fun j o ho => (at_ j o ho).1.1, ?_⟩
  · cases ho : ops[j]? with
    | none => simp [preds, ho] at hi
    | some o => exact (at_ j o ho).1.2 i hi
  · rintro i j oi oj hij hoi hoj ⟨d, ⟨h1, h2⟩ | ⟨h1, h2⟩⟩
    · exact masks_reach ops (((at_ j oj hoj).2 i oi hij hoi).1 d h1 h2)
    · exact masks_reach ops (((at_ j oj hoj).2 i oi hij hoi).2 d h1 h2)
theorem Reach.lt {ops : Array Oper} (hs : Slots ops) {i j : Nat} (h : Reach ops i j) : i < j := by
  induction h with
  | one h => exact hs.low _ _ h
  | more _ h' ih => exact Nat.lt_trans ih (hs.low _ _ h')


/-! ### Kinds of operations -/
/-- Leaves the memory as it is. -/
def lightOp : Op → Bool
  | .move _ | .assign _ | .pick _ _ _ | .build _ _ | .load _ _ | .nilCheck _ | .binOp _ _ _ _ _ | .unOp _ _ _ | .convert _ _ _ | .makeInterface _ _ | .makeFunc _ _ _ | .slice _ _ _ _ _ | .fieldAddr _ _ _ | .field _ _ _ | .indexAddr _ _ _ | .index _ _ _ | .lookup _ _ _ _ | .typeAssert _ _ _ _ | .extract _ _ => true
  | .call ⟨.builtin .len, _, _⟩ | .call ⟨.builtin .min, _, _⟩ | .call ⟨.builtin .max, _, _⟩ => true
  | _ => false
/-- Makes one object of the values at hand. -/
def makeOp : Op → Bool
  | .alloc _ | .box _ _ | .buildSlice _ _ _ => true
  | _ => false
def heavyOp (o : Op) : Bool := !(lightOp o || makeOp o)

def idOf : Value → List Nat
  | .pointer (some a) => [a.block]
  | .slice (some a) _ _ => [a.block]
  | .map (some r) => [r]
  | _ => []
/-- The objects that a light operation looks into. -/
def readsA (t : List Value) : Op → List Nat
  | .load _ a => idOf (evA t a)
  | .slice _ x _ _ _ => idOf (evA t x)
  | .lookup _ m _ _ => idOf (evA t m)
  | .call ⟨.builtin .len, args, _⟩ => args.toList.flatMap fun x => idOf (evA t x)
  | _ => []
def readsMem : Op → Bool
  | .load _ _ | .slice _ _ _ _ _ | .lookup _ _ _ _ | .call ⟨.builtin .len, _, _⟩ => true
  | _ => false
theorem readsA_nil {t : List Value} {o : Op} (h : readsMem o = false) : readsA t o = [] := by
  unfold readsMem at h
  unfold readsA
  split at h <;> simp_all

theorem rdCells_same {M M2 : Mem} {x o k : Nat} (h : M2[x]? = M[x]?) : rdCells M2 x o k = rdCells M x o k := by simp only [rdCells, h]
theorem rdVar_same {P : Program} {M M2 : Mem} {ty : TypeId} {x o : Nat} (h : M2[x]? = M[x]?) : rdVar P M2 ty x o = rdVar P M ty x o := by simp only [rdVar, rdCells_same h]
theorem sliceA_same {P : Program} {M M2 : Mem} {ty : TypeId} {v : Value} {lo hi mx : Option Value} (h : ∀ x ∈ idOf v, M2[x]? = M[x]?) : sliceA P M2 ty v lo hi mx = sliceA P M ty v lo hi mx := by
  unfold sliceA
  split <;> try rfl
  rename_i b o n c
  rw [h b (by simp [idOf])]
theorem mapEs_same {M M2 : Mem} {v : Value} (h : ∀ x ∈ idOf v, M2[x]? = M[x]?) : mapEs M2 v = mapEs M v := by
  unfold mapEs
  split <;> try rfl
  rename_i r
  rw [h r (by simp [idOf])]
theorem lenA_same {P : Program} {M M2 : Mem} {ty : TypeId} {v : Value} (h : ∀ x ∈ idOf v, M2[x]? = M[x]?) : lenA P M2 ty v = lenA P M ty v := by
  unfold lenA
  split <;> try rfl
  rename_i r hk
  rw [h r (by simp [idOf])]

theorem light_same (P : Program) {t : List Value} {o : Op} (hl : lightOp o = true) {M M' : Mem} {v : Value} (h : opEval P t o M = some (v, M')) :
    M' = M ∧ ∀ M2 : Mem, (∀ x ∈ readsA t o, M2[x]? = M[x]?) → opEval P t o M2 = some (v, M2) := by
  have mp : ∀ {q : Option Value} {M M' : Mem} {v : Value}, q.map (fun y => (y, M)) = some (v, M') → M' = M ∧ q = some v := by
    intro q M M' v h
    cases q with
    | none => simp at h
    | some y => simp at h; exact ⟨h.2.symm, by rw [h.1]⟩
  have pure_ : ∀ {q : Mem → Option Value}, (∀ M2 : Mem, (∀ x ∈ readsA t o, M2[x]? = M[x]?) → q M2 = q M) → (∀ M2, opEval P t o M2 = (q M2).map (fun y => (y, M2))) → M' = M ∧ ∀ M2 : Mem, (∀ x ∈ readsA t o, M2[x]? = M[x]?) → opEval P t o M2 = some (v, M2) := by
    intro q hq he
    rw [he M] at h
    obtain ⟨a, b⟩ := mp h
    exact ⟨a, fun M2 h2 => by rw [he, hq M2 h2, b]; rfl⟩
  cases o with
  | move x => exact pure_ (q := fun _ => some (evA t x)) (fun _ _ => rfl) (fun _ => rfl)
  | assign x => exact pure_ (q := fun _ => some (evA t x)) (fun _ _ => rfl) (fun _ => rfl)
  | pick c a b => exact pure_ (q := fun _ => match evA t c with | .bool k => some (if k then evA t a else evA t b) | _ => none) (fun _ _ => rfl) (fun M2 => by simp only [opEval]; split <;> simp_all)
  | build ty parts => exact pure_ (q := fun _ => builtA P ty (evParts t parts)) (fun _ _ => rfl) (fun M2 => rfl)
  | load ty a =>
    refine pure_ (q := fun M => match evA t a with | .pointer (some ⟨x, o, none⟩) => rdVar P M ty x o | _ => none) (fun M2 h2 => ?_) (fun M2 => by simp only [opEval]; split <;> simp_all)
    split
    · rename_i x o hx
      exact rdVar_same (h2 x (by simp [readsA, hx, idOf]))
    · rfl
  | nilCheck x =>
    exact pure_ (q := fun _ => match evA t x with
        | .pointer (some a) => some (.pointer (some a))
        | .func (.func f) a b => some (.func (.func f) a b)
        | .func (.yield l) a b => some (.func (.yield l) a b)
        | _ => none)
      (fun _ _ => rfl)
      (fun M2 => by simp only [opEval]; split <;> simp_all)
  | binOp op ty x y z => exact pure_ (q := fun _ => binA P op ty x y (evA t x) (evA t y)) (fun _ _ => rfl) (fun M2 => rfl)
  | unOp op z x => exact pure_ (q := fun _ => if plain1 (evA t x) then keep1 (pureS P (Op.unary op (evA t x))) else none) (fun _ _ => rfl) (fun M2 => by simp only [opEval]; split <;> simp_all)
  | convert s d x => exact pure_ (q := fun _ => if plain1 (evA t x) then keep1 (pureS P (convert s d (evA t x))) else none) (fun _ _ => rfl) (fun M2 => by simp only [opEval]; split <;> simp_all)
  | makeInterface ty x => exact pure_ (q := fun _ => (kindT P ty).bind fun k => if k = .iface then none else some (.iface ty (evA t x))) (fun _ _ => rfl) (fun M2 => by
      simp only [opEval]
      cases kindT P ty with
      | none => rfl
      | some k => simp only [Option.bind_some]; split <;> rfl)
  | makeFunc f first cap =>
    cases f with
    | func f => exact pure_ (q := fun _ => some (.func (.func f) (first.toList.map (evA t)).toArray (cap.toList.map (evA t)).toArray)) (fun _ _ => rfl) (fun M2 => rfl)
    | _ => simp [opEval] at h
  | slice ty x lo hi mx =>
    refine pure_ (q := fun M => if mx.isSome && hi.isNone then none else sliceA P M ty (evA t x) (lo.map (evA t)) (hi.map (evA t)) (mx.map (evA t))) (fun M2 h2 => ?_) (fun M2 => by simp only [opEval]; split <;> simp_all)
    simp only [sliceA_same (M := M) (M2 := M2) (fun y hy => h2 y (by simpa [readsA] using hy))]
  | fieldAddr ty x f => exact pure_ (q := fun _ => fieldAddrA P ty (evA t x) f) (fun _ _ => rfl) (fun M2 => rfl)
  | field ty x f => exact pure_ (q := fun _ => fieldA P ty (evA t x) f) (fun _ _ => rfl) (fun M2 => rfl)
  | indexAddr ty x i => exact pure_ (q := fun _ => idxA P ty (evA t x) (evA t i)) (fun _ _ => rfl) (fun M2 => rfl)
  | index ty x i => exact pure_ (q := fun _ => indexA P ty (evA t x) (evA t i)) (fun _ _ => rfl) (fun M2 => rfl)
  | lookup ty m k ok =>
    refine pure_ (q := fun M => lookupA P M ty (evA t m) (evA t k) ok) (fun M2 h2 => ?_) (fun M2 => rfl)
    simp only [lookupA, mapEs_same (M := M) (M2 := M2) (fun y hy => h2 y (by simpa [readsA] using hy))]
  | typeAssert x z ty ok => exact pure_ (q := fun _ => assertA P ty (evA t x) ok) (fun _ _ => rfl) (fun M2 => rfl)
  | extract x i => exact pure_ (q := fun _ => extractA (evA t x) i) (fun _ _ => rfl) (fun M2 => rfl)
  | call c =>
    obtain ⟨callee, args, argTypes⟩ := c
    cases callee with
    | builtin b =>
      cases b with
      | len =>
        obtain ⟨l1⟩ := args
        obtain ⟨l2⟩ := argTypes
        rcases l2 with _ | ⟨ty, _ | ⟨_, _⟩⟩ <;> rcases l1 with _ | ⟨x, _ | ⟨_, _⟩⟩ <;> try (simp [opEval, builtinA] at h; done)
        refine pure_ (q := fun M => lenA P M ty (evA t x)) (fun M2 h2 => ?_) (fun M2 => rfl)
        exact lenA_same (M := M) (M2 := M2) (fun y hy => h2 y (by simpa [readsA] using hy))
      | min => exact pure_ (q := fun _ => if (args.toList.map (evA t)).all plain1 then keep1 (pureS P (Builtin.min_ #[] 0 (args.toList.map (evA t)).toArray)) else none) (fun _ _ => rfl) (fun M2 => by simp only [opEval, builtinA]; split <;> rfl)
      | max => exact pure_ (q := fun _ => if (args.toList.map (evA t)).all plain1 then keep1 (pureS P (Builtin.max_ #[] 0 (args.toList.map (evA t)).toArray)) else none) (fun _ _ => rfl) (fun M2 => by simp only [opEval, builtinA]; split <;> rfl)
      | _ => simp [lightOp] at hl
    | _ => simp [lightOp] at hl
  | _ => simp [lightOp] at hl

/-- What makes one object makes it in any memory. -/
theorem make_same (P : Program) {t : List Value} {o : Op} (hl : makeOp o = true) {M M' : Mem} {v : Value} (h : opEval P t o M = some (v, M')) :
    ∃ (vs : List Value) (u : Nat) (mk : Nat → Value), M' = M ++ [.cells vs u .live] ∧ v = mk M.length ∧ (∀ M2 : Mem, opEval P t o M2 = some (mk M2.length, M2 ++ [.cells vs u .live])) ∧
      ((mk = fun n => .pointer (some ⟨n, 0, none⟩)) ∨ ∃ k, mk = fun n => .slice (some ⟨n, 0, none⟩) k k) := by
  cases o with
  | alloc e =>
    simp only [opEval] at h
    cases hz : zeroVT P e with
    | none => simp [hz] at h
    | some z =>
      cases hs : sizeT P e with
      | none => simp [hz, hs] at h
      | some u =>
        simp [hz, hs] at h
        exact ⟨_, _, fun n => .pointer (some ⟨n, 0, none⟩), h.2.symm, h.1.symm, fun M2 => by simp [opEval, hz, hs], .inl rfl⟩
  | box e x =>
    simp only [opEval] at h
    cases hs : sizeT P e with
    | none => simp [hs] at h
    | some u =>
      simp [hs] at h
      exact ⟨_, _, fun n => .pointer (some ⟨n, 0, none⟩), h.2.symm, h.1.symm, fun M2 => by simp [opEval, hs], .inl rfl⟩
  | buildSlice ty n parts =>
    simp only [opEval] at h
    cases he : elemT P ty with
    | none => simp [he] at h
    | some e =>
      cases hq : litCells P e n (evParts t parts) with
      | none => simp [he, hq] at h
      | some q =>
        simp [he, hq] at h
        exact ⟨_, _, fun m => .slice (some ⟨m, 0, none⟩) n n, h.2.symm, h.1.symm, fun M2 => by simp [opEval, he, hq], .inr ⟨n, rfl⟩⟩
  | _ => simp [makeOp] at hl

/-! ### The check -/
/-- Every two heavy ones are ordered. -/
def heavyOk (ops : Array Oper) : Bool :=
  let l := ops.toList.map fun o => heavyOp o.op
  let ms := masks ops
  (List.range ops.size).all fun j => !(l.getD j false) || (List.range j).all fun i => !(l.getD i false) || (ms.getD j 0).testBit i
def regionOk (ops : Array Oper) : Bool := slotsOk ops && heavyOk ops
/-- Heavy i, light or making j, unordered, where it may matter. -/
def conf (ops : Array Oper) : List (Nat × Nat) :=
  let hv := ops.toList.map fun o => heavyOp o.op
  let rd := ops.toList.map fun o => readsMem o.op
  let mk := ops.toList.map fun o => makeOp o.op
  let ms := masks ops
  (List.range ops.size).flatMap fun i => if hv.getD i false then (List.range ops.size).filterMap fun j =>
    if (ms.getD j 0).testBit i || (ms.getD i 0).testBit j then none else if rd.getD j false || (mk.getD j false && decide (j < i)) then some (i, j) else none else []
def touchA (o : Op) (t : List Value) (n : Nat) : List Nat := if makeOp o then [n] else readsA t o

def HvAt (ops : Array Oper) (i : Nat) : Prop := ∃ o, ops[i]? = some o ∧ heavyOp o.op = true
theorem heavyOk_spec {ops : Array Oper} (h : heavyOk ops = true) {i j : Nat} (hi : HvAt ops i) (hj : HvAt ops j) (hij : i < j) : Reach ops i j := by
  obtain ⟨oi, hoi, hvi⟩ := hi
  obtain ⟨oj, hoj, hvj⟩ := hj
  unfold heavyOk at h
  have hjs : j < ops.size := (Array.getElem?_eq_some_iff.1 hoj).1
  have h1 := List.all_eq_true.1 h j (by simpa using hjs)
  have gj : (ops.toList.map fun o => heavyOp o.op).getD j false = true := by
    rw [List.getD_eq_getElem?_getD, List.getElem?_map]
    simp [hoj, hvj]
  have gi : (ops.toList.map fun o => heavyOp o.op).getD i false = true := by
    rw [List.getD_eq_getElem?_getD, List.getElem?_map]
    simp [hoi, hvi]
  simp only [gj, Bool.not_true, Bool.false_or] at h1
  have h2 := List.all_eq_true.1 h1 i (by simpa using hij)
  simp only [gi, Bool.not_true, Bool.false_or] at h2
  exact masks_reach ops h2
theorem conf_spec {ops : Array Oper} {i j : Nat} {oj : Oper} (hi : HvAt ops i) (hoj : ops[j]? = some oj) (h : readsMem oj.op = true ∨ (makeOp oj.op = true ∧ j < i)) (h1 : ¬ Reach ops i j) (h2 : ¬ Reach ops j i) : (i, j) ∈ conf ops := by
  obtain ⟨oi, hoi, hvi⟩ := hi
  have his : i < ops.size := (Array.getElem?_eq_some_iff.1 hoi).1
  have hjs : j < ops.size := (Array.getElem?_eq_some_iff.1 hoj).1
  unfold conf
  rw [List.mem_flatMap]
  refine ⟨i, by simpa using his, ?_⟩
  have gi : (ops.toList.map fun o => heavyOp o.op).getD i false = true := by
    rw [List.getD_eq_getElem?_getD, List.getElem?_map]
    simp [hoi, hvi]
  simp only [gi, if_true]
  rw [List.mem_filterMap]
  refine ⟨j, by simpa using hjs, ?_⟩
  have m1 : ((masks ops).getD j 0).testBit i = false := by
    cases hb : ((masks ops).getD j 0).testBit i with
    | false => rfl
    | true => exact absurd (masks_reach ops hb) h1
  have m2 : ((masks ops).getD i 0).testBit j = false := by
    cases hb : ((masks ops).getD i 0).testBit j with
    | false => rfl
    | true => exact absurd (masks_reach ops hb) h2
  rw [m1, m2]
  have gr : (ops.toList.map fun o => readsMem o.op).getD j false = readsMem oj.op := by
    rw [List.getD_eq_getElem?_getD, List.getElem?_map]
    simp [hoj]
  have gm : (ops.toList.map fun o => makeOp o.op).getD j false = makeOp oj.op := by
    rw [List.getD_eq_getElem?_getD, List.getElem?_map]
    simp [hoj]
  rw [gr, gm]
  rcases h with h | ⟨h, h'⟩
  · simp [h]
  · simp [h, h']

end Go.Proofs.YtabkcbaknjenmaaAM

/-
  AN ABSTRACT MACHINE OVER THE MODEL, part 9: code, calls, rounds of a range over a function, deferred calls.
-/
set_option linter.unusedVariables false
set_option linter.unusedSimpArgs false
namespace Go.Proofs.YtabkcbaknjenmaaAM
open Go

inductive ADef where
  | mark (r : Nat)
  | call (f : FuncId) (args cap : List Value)

structure St where
  t : List Value
  d : List ADef
  M : Mem
  rc : Bool

inductive AExit where
  | normal
  | exit (id : Nat)
  | ret
  | panic (v : Value)

/-- What kind of frame it is; behind 'deferred': what recover would find. -/
inductive Ctx where
  | normal
  | deferred (pv : Option Value)
def Ctx.kind : Ctx → CallKind | .normal => .normal | .deferred _ => .deferred

inductive Out where
  | ret (v : Value)
  | panic (v : Value)

inductive UMode where
  | returning
  | panicking (v : Value)

inductive Task where
  | code (fn : FuncId) (rd : Option Nat) (k : Ctx) (c : Code) (s : St)
  | val (ops : Array Oper) (i : Nat) (t : List Value) (M : Mem)
  | op (fn : FuncId) (rd : Option Nat) (k : Ctx) (ops : Array Oper) (i : Nat) (s : St)
  | ops (fn : FuncId) (rd : Option Nat) (k : Ctx) (ops : Array Oper) (l : List Nat) (s : St)
  | call (k : Ctx) (f : FuncId) (args : List Value) (M : Mem)
  | round (l : Nat) (args : List Value) (M : Mem)
  | unwind (fn : FuncId) (k : Ctx) (m : UMode) (s : St)

inductive Res where
  | code (e : AExit) (s : St)
  | call (o : Out) (M : Mem) (rc : Bool)

def putA (t : List Value) (dst : Option Tmp) (v : Value) : List Value := match dst with | some d => t.set d v | none => t
def St.put (s : St) (dst : Option Tmp) (v : Value) : St := { s with t := putA s.t dst v }

def yieldedA (ops : Array Oper) (t : List Value) (j : Nat) : Option Bool :=
  match ((ops[j]?).bind (·.dst)).bind (t[·]?) with
  | some (.bool b) => some b
  | _ => none
def wantedA (ops : Array Oper) (t : List Value) (o : Oper) : Bool :=
  match o.guard with
  | none => true
  | some (j, want) => yieldedA ops t j == some want

def AExit.inBlock (id : Nat) : AExit → AExit
  | .exit i => if i = id then .normal else .exit i
  | e => e

/-- What a function answers: its results' variables read. -/
def resultA (P : Program) (t : List Value) (M : Mem) : ResultVar → Option Value
  | .tmp i => some (t.getD i undef)
  | .cell i ty => match t.getD i undef with | .pointer (some ⟨x, o, none⟩) => rdVar P M ty x o | _ => none
def resultsA (P : Program) (fn : Func) (t : List Value) (M : Mem) : Option Value :=
  (fn.results.toList.mapM (resultA P t M)).map fun vs => match vs with | [v] => v | vs => .tuple vs.toArray

/-- The values that are handed to a call of a function value. -/
def calleeA (t : List Value) (c : Call) : Option (FuncId × List Value) :=
  match c.callee with
  | .value f => match evA t f with
    | .func (.func g) first cap => some (g, first.toList ++ c.args.toList.map (evA t) ++ cap.toList)
    | _ => none
  | _ => none
def yieldA (t : List Value) (c : Call) : Option (Nat × List Value) :=
  match c.callee with
  | .value f => match evA t f with
    | .func (.yield l) _ _ => some (l, c.args.toList.map (evA t))
    | _ => none
  | _ => none

/-- A function with a body, that the model walks into. -/
def walksIn (P : Program) (f : FuncId) : Bool :=
  match P.funcs[f]? with
  | some fn => fn.body.isSome && !(fn.name == "runtime.NumGoroutine")
  | none => false

def startSt (fn : Func) (args : List Value) (M : Mem) : St := ⟨args ++ List.replicate (fn.ntmps - args.length) undef, [], M, false⟩

def setParams (t : List Value) (params : Array Tmp) (args : List Value) : List Value := (params.toList.zip args).foldl (fun t q => t.set q.1 q.2) t

inductive Ev (P : Program) (I : FuncId → List Value → Mem → Value → Mem → Prop) : Task → Res → Prop
  | skip {fn rd k s} : Ev P I (.code fn rd k .skip s) (.code .normal s)
  | seqN {fn rd k a b s s1 r} (h : Ev P I (.code fn rd k a s) (.code .normal s1)) (h' : Ev P I (.code fn rd k b s1) r) : Ev P I (.code fn rd k (.seq a b) s) r
  | seqX {fn rd k a b s s1 e} (h : Ev P I (.code fn rd k a s) (.code e s1)) (he : e ≠ .normal) : Ev P I (.code fn rd k (.seq a b) s) (.code e s1)
  | cond {fn rd k c x y s r} {t : Bool} (hx : okX c = true) (hc : evA s.t c = .bool t) (h : Ev P I (.code fn rd k (if t then x else y) s) r) : Ev P I (.code fn rd k (.cond c x y) s) r
  | block {fn rd k id c s e s1} (h : Ev P I (.code fn rd k c s) (.code e s1)) : Ev P I (.code fn rd k (.block id c) s) (.code (e.inBlock id) s1)
  | loopN {fn rd k c s s1 r} (h : Ev P I (.code fn rd k c s) (.code .normal s1)) (h' : Ev P I (.code fn rd k (.loop c) s1) r) : Ev P I (.code fn rd k (.loop c) s) r
  | loopX {fn rd k c s s1 e} (h : Ev P I (.code fn rd k c s) (.code e s1)) (he : e ≠ .normal) : Ev P I (.code fn rd k (.loop c) s) (.code e s1)
  | exit {fn rd k id s} : Ev P I (.code fn rd k (.exit id) s) (.code (.exit id) s)
  | ret {fn rd k s} : Ev P I (.code fn rd k .ret s) (.code .ret s)
  | region {fn rd k id ops s r} (h : Ev P I (.ops fn rd k ops (List.range ops.size) s) r) : Ev P I (.code fn rd k (.region id ops false) s) r
  | regionD {fn rd k id ops s} {tr : Nat → St} {vs : Nat → Value} {rcs : Nat → Bool} (hok : regionOk ops = true) (h0 : tr 0 = s)
      (hs : ∀ i o, ops[i]? = some o → tr (i + 1) = { tr i with M := (tr (i + 1)).M }.put o.dst (vs i))
      (hoff : ∀ i o, ops[i]? = some o → wantedA ops (tr i).t o = false → vs i = undef ∧ (tr (i + 1)).M = (tr i).M)
      (hl : ∀ i o, ops[i]? = some o → wantedA ops (tr i).t o = true → heavyOp o.op = false → okOp o.op = true ∧ opEval P (tr i).t o.op (tr i).M = some (vs i, (tr (i + 1)).M))
      (hh : ∀ i o, ops[i]? = some o → wantedA ops (tr i).t o = true → heavyOp o.op = true → Ev P I (.val ops i (tr i).t (tr i).M) (.call (.ret (vs i)) (tr (i + 1)).M (rcs i)))
      (hc : ∀ q ∈ conf ops, ∀ o, ops[q.2]? = some o → wantedA ops (tr q.2).t o = true → ∀ x ∈ touchA o.op (tr q.2).t (tr q.2).M.length, x < (tr q.1).M.length → (tr (q.1 + 1)).M[x]? = (tr q.1).M[x]?) :
      Ev P I (.code fn rd k (.region id ops true) s) (.code .normal (tr ops.size))
  | rangeFn {fn k f params assign body s g first cap M2 st fn' t' ps as bd df v0 rc0} (hx : okX f = true) (hf : evA s.t f = .func (.func g) first cap) (hwk : walksIn P g = true)
      (h : Ev P I (.call .normal g (first.toList ++ [.func (.yield (s.M.length + 1)) #[] #[]] ++ cap.toList) (s.M ++ [.defers false, .loop .ready none fn s.t params assign body s.M.length])) (.call (.ret v0) M2 rc0))
      (hl : M2[s.M.length + 1]? = some (.loop st none fn' t' ps as bd df)) (hb : st ≠ .busy) :
      Ev P I (.code fn none k (.rangeFunc f params assign body) s) (.code .normal ⟨s.t, .mark s.M.length :: s.d, M2.set (s.M.length + 1) (.loop .exhausted none fn' t' ps as bd df), s.rc⟩)
  | rangeFnJ {fn k f params assign body s g first cap M2 st j fn' t' ps as bd df r v0 rc0} (hx : okX f = true) (hf : evA s.t f = .func (.func g) first cap) (hwk : walksIn P g = true)
      (h : Ev P I (.call .normal g (first.toList ++ [.func (.yield (s.M.length + 1)) #[] #[]] ++ cap.toList) (s.M ++ [.defers false, .loop .ready none fn s.t params assign body s.M.length])) (.call (.ret v0) M2 rc0))
      (hl : M2[s.M.length + 1]? = some (.loop st (some j) fn' t' ps as bd df)) (hb : st ≠ .busy) (hnl : ∀ bd, j ≠ .loop bd)
      (hj : Ev P I (.code fn none k j ⟨s.t, .mark s.M.length :: s.d, M2.set (s.M.length + 1) (.loop .exhausted (some j) fn' t' ps as bd df), s.rc⟩) r) :
      Ev P I (.code fn none k (.rangeFunc f params assign body) s) r
  | rangeFnP {fn k f params assign body s g first cap M2 v0 rc0} (hx : okX f = true) (hf : evA s.t f = .func (.func g) first cap) (hwk : walksIn P g = true)
      (h : Ev P I (.call .normal g (first.toList ++ [.func (.yield (s.M.length + 1)) #[] #[]] ++ cap.toList) (s.M ++ [.defers false, .loop .ready none fn s.t params assign body s.M.length])) (.call (.panic v0) M2 rc0)) :
      Ev P I (.code fn none k (.rangeFunc f params assign body) s) (.code (.panic v0) ⟨s.t, .mark s.M.length :: s.d, M2, s.rc⟩)
  | opsNil {fn rd k ops s} : Ev P I (.ops fn rd k ops [] s) (.code .normal s)
  | opsCons {fn rd k ops i l s s1 r} (h : Ev P I (.op fn rd k ops i s) (.code .normal s1)) (h' : Ev P I (.ops fn rd k ops l s1) r) : Ev P I (.ops fn rd k ops (i :: l) s) r
  | opsConsX {fn rd k ops i l s s1 e} (h : Ev P I (.op fn rd k ops i s) (.code e s1)) (he : e ≠ .normal) : Ev P I (.ops fn rd k ops (i :: l) s) (.code e s1)
  | opSkip {fn rd k ops i s o} (ho : ops[i]? = some o) (hw : wantedA ops s.t o = false) : Ev P I (.op fn rd k ops i s) (.code .normal (s.put o.dst undef))
  | opVal {fn rd k ops i s o v M' rc} (ho : ops[i]? = some o) (hw : wantedA ops s.t o = true) (h : Ev P I (.val ops i s.t s.M) (.call (.ret v) M' rc)) : Ev P I (.op fn rd k ops i s) (.code .normal ({ s with M := M' }.put o.dst v))
  | opValP {fn rd k ops i s o v M' rc} (ho : ops[i]? = some o) (hw : wantedA ops s.t o = true) (h : Ev P I (.val ops i s.t s.M) (.call (.panic v) M' rc)) : Ev P I (.op fn rd k ops i s) (.code (.panic v) { s with M := M' })
  | valLight {ops i t M o v M'} (ho : ops[i]? = some o) (hk : okOp o.op = true) (hv : opEval P t o.op M = some (v, M')) : Ev P I (.val ops i t M) (.call (.ret v) M' false)
  | valCall {ops i t M o c g args out M' rc} (ho : ops[i]? = some o) (hk : okOp o.op = true) (hop : o.op = .call c) (hc : calleeA t c = some (g, args)) (hwk : walksIn P g = true) (hg : Ev P I (.call .normal g args M) (.call out M' rc)) : Ev P I (.val ops i t M) (.call out M' rc)
  | valYield {ops i t M o c n args out M' rc} (ho : ops[i]? = some o) (hk : okOp o.op = true) (hop : o.op = .call c) (hc : yieldA t c = some (n, args)) (hg : Ev P I (.round n args M) (.call out M' rc)) : Ev P I (.val ops i t M) (.call out M' rc)
  | opPanic {fn rd k ops i s o x ty v} (ho : ops[i]? = some o) (hw : wantedA ops s.t o = true) (hk : okOp o.op = true) (hop : o.op = .panic x) (hv : evA s.t x = .iface ty v) :
      Ev P I (.op fn rd k ops i s) (.code (.panic (.iface ty v)) s)
  | opDefer {fn k ops i s o c f g first cap} (ho : ops[i]? = some o) (hw : wantedA ops s.t o = true) (hk : okOp o.op = true) (hop : o.op = .defer c) (hc : c.callee = .value f) (hf : evA s.t f = .func (.func g) first cap) :
      Ev P I (.op fn none k ops i s) (.code .normal ({ s with d := .call g (first.toList ++ c.args.toList.map (evA s.t)) cap.toList :: s.d }.put o.dst undef))
  | opRecover {fn ops i s o c v} (ho : ops[i]? = some o) (hw : wantedA ops s.t o = true) (hop : o.op = .call c) (hc : c.callee = .builtin .recover) (hrc : s.rc = false) :
      Ev P I (.op fn none (.deferred (some v)) ops i s) (.code .normal ({ s with rc := true }.put o.dst v))
  | opRecoverN {fn ops i s o c} (ho : ops[i]? = some o) (hw : wantedA ops s.t o = true) (hop : o.op = .call c) (hc : c.callee = .builtin .recover) :
      Ev P I (.op fn none (.deferred none) ops i s) (.code .normal (s.put o.dst .nilIface))
  | callBody {k f args M fn c e s1 r} (hf : P.funcs[f]? = some fn) (hb : fn.body = some c) 
      (h : Ev P I (.code f none k c (startSt fn args M)) (.code e s1)) (he : e = .normal ∨ e = .ret) (hu : Ev P I (.unwind f k .returning s1) r) : Ev P I (.call k f args M) r
  | callPanic {k f args M fn c v s1 r} (hf : P.funcs[f]? = some fn) (hb : fn.body = some c) (h : Ev P I (.code f none k c (startSt fn args M)) (.code (.panic v) s1)) (hu : Ev P I (.unwind f k (.panicking v) s1) r) : Ev P I (.call k f args M) r
  | intr {f args M v M'} (h : I f args M v M') : Ev P I (.call .normal f args M) (.call (.ret v) M' false)
  | unwRet {f k s fn v} (hf : P.funcs[f]? = some fn) (hd : s.d = []) (hr : resultsA P fn s.t s.M = some v) : Ev P I (.unwind f k .returning s) (.call (.ret v) s.M s.rc)
  | unwPanic {f k s v} (hd : s.d = []) : Ev P I (.unwind f k (.panicking v) s) (.call (.panic v) s.M s.rc)
  | unwMark {f k m s r ds q} (hd : s.d = .mark r :: ds) (hm : s.M[r]? = some (.defers false)) (h : Ev P I (.unwind f k m { s with d := ds, M := s.M.set r (.defers true) }) q) : Ev P I (.unwind f k m s) q
  | unwCall {f k s r ds g args cap v M' rc} (hd : s.d = .call g args cap :: ds) (hw : walksIn P g = true) (h : Ev P I (.call (.deferred none) g (args ++ cap) s.M) (.call (.ret v) M' rc)) (h' : Ev P I (.unwind f k .returning { s with d := ds, M := M' }) r) : Ev P I (.unwind f k .returning s) r
  | unwCallP {f k s r ds g args cap v pv M' rc} (hd : s.d = .call g args cap :: ds) (hw : walksIn P g = true) (h : Ev P I (.call (.deferred (some pv)) g (args ++ cap) s.M) (.call (.ret v) M' rc)) (h' : Ev P I (.unwind f k (if rc then .returning else .panicking pv) { s with d := ds, M := M' }) r) : Ev P I (.unwind f k (.panicking pv) s) r
  | roundP {l args M st pd fn t ps as bd df s1 pd1 fn1 t1 ps1 as1 bd1 df1 v s2} (hl : M[l]? = some (.loop st pd fn t ps as bd df)) (hn : args.length = ps.size)
      (ha : Ev P I (.code fn (some l) .normal as ⟨setParams t ps args, [], M, false⟩) (.code .normal s1))
      (hfn : ∃ x, P.funcs[fn]? = some x) (hl1 : s1.M[l]? = some (.loop .ready pd1 fn1 t1 ps1 as1 bd1 df1))
      (hb : Ev P I (.code fn (some l) .normal bd { s1 with M := s1.M.set l (.loop .busy pd1 fn1 t1 ps1 as1 bd1 df1) }) (.code (.panic v) s2)) (hd2 : s2.d = []) :
      Ev P I (.round l args M) (.call (.panic v) s2.M false)
  | round {l args M st pd fn t ps as bd df s1 pd1 fn1 t1 ps1 as1 bd1 df1 e s2 st2 pd2 fn2 t2 ps2 as2 bd2 df2} (hl : M[l]? = some (.loop st pd fn t ps as bd df)) (hn : args.length = ps.size)
      (ha : Ev P I (.code fn (some l) .normal as ⟨setParams t ps args, [], M, false⟩) (.code .normal s1))
      (hl1 : s1.M[l]? = some (.loop .ready pd1 fn1 t1 ps1 as1 bd1 df1))
      (hb : Ev P I (.code fn (some l) .normal bd { s1 with M := s1.M.set l (.loop .busy pd1 fn1 t1 ps1 as1 bd1 df1) }) (.code e s2))
      (hl2 : s2.M[l]? = some (.loop st2 pd2 fn2 t2 ps2 as2 bd2 df2)) {j : Option Code} (hj : (e = .normal ∧ j = none) ∨ (e = .ret ∧ j = some .ret) ∨ ∃ id, e = .exit id ∧ j = some (.exit id)) :
      Ev P I (.round l args M) (.call (.ret (.bool j.isNone)) (s2.M.set l (.loop (if j.isNone then .ready else .done) j fn2 t2 ps2 as2 bd2 df2)) false)

end Go.Proofs.YtabkcbaknjenmaaAM

/-
  AN ABSTRACT MACHINE OVER THE MODEL, part 10: what it does the model does.
-/
set_option linter.unusedVariables false
set_option linter.unusedSimpArgs false
namespace Go.Proofs.YtabkcbaknjenmaaAM
open Go

def Fr (b : Frame) (a : Act) (todo : List Item) : Frame := { fn := b.fn, tmps := a.tmps, todo, defers := a.defers, mode := .run, kind := b.kind, roundOf := b.roundOf }

def DRel (ρ : Rho) : ADef → Deferred → Prop
  | .mark r, d => ∃ p, ρ r = some p ∧ d = { target := .collected p.block, args := #[] }
  | .call f args cap, d => ∃ args' cap', d = { target := .fn (.func f) cap', args := args' } ∧ LRel ρ args args'.toList ∧ LRel ρ cap cap'.toList
theorem DRel.mono {ρ ρ' : Rho} (h : Rho.le ρ ρ') {x : ADef} {d : Deferred} (r : DRel ρ x d) : DRel ρ' x d := by
  cases x with
  | mark n => obtain ⟨p, a, b⟩ := r; exact ⟨p, h _ _ a, b⟩
  | call f args cap => obtain ⟨a, b, c, d, e⟩ := r; exact ⟨a, b, c, d.mono h, e.mono h⟩
def DsRel (ρ : Rho) : List ADef → List Deferred → Prop
  | [], [] => True
  | x :: xs, d :: ds => DRel ρ x d ∧ DsRel ρ xs ds
  | _, _ => False
theorem DsRel.mono {ρ ρ' : Rho} (h : Rho.le ρ ρ') : ∀ {xs : List ADef} {ds : List Deferred}, DsRel ρ xs ds → DsRel ρ' xs ds
  | [], [], _ => trivial
  | x :: xs, d :: ds, r => ⟨r.1.mono h, DsRel.mono h r.2⟩
  | [], _ :: _, r => r.elim
  | _ :: _, [], r => r.elim
theorem DsRel.nil_inv {ρ : Rho} {ds : List Deferred} (h : DsRel ρ [] ds) : ds = [] := by cases ds with | nil => rfl | cons d ds => exact h.elim
theorem DsRel.cons_inv {ρ : Rho} {x : ADef} {xs : List ADef} {ds : List Deferred} (h : DsRel ρ (x :: xs) ds) : ∃ d ds', ds = d :: ds' ∧ DRel ρ x d ∧ DsRel ρ xs ds' := by cases ds with | nil => exact h.elim | cons d ds => exact ⟨d, ds, rfl, h.1, h.2⟩

def RdRel (ρ : Rho) : Option Nat → Option Nat → Prop
  | none, none => True
  | some l, some b => ∃ p, ρ l = some p ∧ p.block = b
  | _, _ => False
theorem RdRel.mono {ρ ρ' : Rho} (h : Rho.le ρ ρ') {a b : Option Nat} (r : RdRel ρ a b) : RdRel ρ' a b := by
  cases a <;> cases b <;> first | exact r | (obtain ⟨p, x, y⟩ := r; exact ⟨p, h _ _ x, y⟩)

/-- The callers, by whether what runs has recovered. -/
def CsOk (ρ : Rho) : Ctx → (Bool → List Frame) → Prop
  | .normal, Cs => ∀ b, Cs b = Cs false
  | .deferred none, Cs => (∀ b, Cs b = Cs false) ∧ ∃ c rest, Cs false = c :: rest ∧ c.mode = .returning
  | .deferred (some v), Cs => ∃ (c : Frame) (rest : List Frame) (v' : Value), VRel ρ v v' ∧ ∀ b, Cs b = { c with mode := .panicking [{ v := v', recovered := b, goexit := false }] } :: rest
theorem CsOk.mono {ρ ρ' : Rho} (h : Rho.le ρ ρ') {k : Ctx} {Cs : Bool → List Frame} (r : CsOk ρ k Cs) : CsOk ρ' k Cs := by
  cases k with
  | normal => exact r
  | deferred pv => cases pv with
    | none => exact r
    | some v => obtain ⟨c, rest, v', a, b⟩ := r; exact ⟨c, rest, v', a.mono h, b⟩

section steps
variable {P : Program} {b : Frame} {a : Act} {k : List Item} {cs : List Frame} {w : World}
theorem fr_eval (b : Frame) (a : Act) (todo : List Item) : (Fr b a todo).eval = a.eval := by funext x; cases x <;> rfl
theorem st_skip : step P (lone (Fr b a (.code .skip :: k)) cs w) = .next (lone (Fr b a k) cs w) := step_lone_go (by simp [stepG, stepG.exec, Fr])
theorem st_inBlock {id : Nat} : step P (lone (Fr b a (.inBlock id :: k)) cs w) = .next (lone (Fr b a k) cs w) := step_lone_go (by simp [stepG, stepG.exec, Fr])
theorem st_seq {x y : Code} : step P (lone (Fr b a (.code (.seq x y) :: k)) cs w) = .next (lone (Fr b a (.code x :: .code y :: k)) cs w) := step_lone_go (by simp [stepG, stepG.exec, Fr])
theorem st_cond {c : Operand} {x y : Code} {t : Bool} (h : a.eval c = .bool t) : step P (lone (Fr b a (.code (.cond c x y) :: k)) cs w) = .next (lone (Fr b a (.code (if t then x else y) :: k)) cs w) :=
  step_lone_go (by
    have := congrFun (fr_eval b a (.code (.cond c x y) :: k)) c
    simp only [Fr] at this
    simp [stepG, stepG.exec, Fr, this, h])
theorem st_block {id : Nat} {c : Code} : step P (lone (Fr b a (.code (.block id c) :: k)) cs w) = .next (lone (Fr b a (.code c :: .inBlock id :: k)) cs w) := step_lone_go (by simp [stepG, stepG.exec, Fr])
theorem st_loop {c : Code} : step P (lone (Fr b a (.code (.loop c) :: k)) cs w) = .next (lone (Fr b a (.code c :: .inLoop c :: k)) cs w) := step_lone_go (by simp [stepG, stepG.exec, Fr])
theorem st_inLoop {c : Code} : step P (lone (Fr b a (.inLoop c :: k)) cs w) = .next (lone (Fr b a (.code c :: .inLoop c :: k)) cs w) := step_lone_go (by simp [stepG, stepG.exec, Fr])
theorem st_exit {id : Nat} {k' : List Item} (h : exitTo id k = some k') : step P (lone (Fr b a (.code (.exit id) :: k)) cs w) = .next (lone (Fr b a k') cs w) := step_lone_go (by simp [stepG, stepG.exec, Fr, h])
theorem st_ret (hr : b.roundOf = none) : step P (lone (Fr b a (.code .ret :: k)) cs w) = .next (lone { Fr b a (.code .ret :: k) with mode := .returning } cs w) := step_lone_go (by simp [stepG, stepG.exec, Fr, hr])
theorem st_end (hr : b.roundOf = none) : step P (lone (Fr b a []) cs w) = .next (lone { Fr b a [] with mode := .returning } cs w) := step_lone_go (by simp [stepG, stepG.exec, Fr, hr])
theorem st_region {id : Nat} {ops : Array Oper} : step P (lone (Fr b a (.code (.region id ops false) :: k)) cs w) = .next (lone (Fr b a (.inRegion ops (List.range ops.size) :: k)) cs w) := step_lone_go (by simp [stepG, stepG.exec, Fr])
theorem st_regionEnd {ops : Array Oper} : step P (lone (Fr b a (.inRegion ops [] :: k)) cs w) = .next (lone (Fr b a k) cs w) := step_lone_go (by simp [stepG, stepG.exec, Fr])
theorem fr_finish (b : Frame) (a : Act) (ops : Array Oper) (i : Nat) (rest : List Nat) (k : List Item) (v : Value) : (Fr b a (.inRegion ops (i :: rest) :: k)).finish v = Fr b (a.put ((ops[i]?).bind (·.dst)) v) (.inRegion ops rest :: k) := by
  cases h : (ops[i]?).bind (·.dst) <;> simp [Frame.finish, Fr, Act.put, h]
theorem st_opSkip {ops : Array Oper} {i : Nat} {rest : List Nat} (h : ((ops[i]?).map (Region.wanted · (yielded ops a.tmps))).getD false = false) :
    step P (lone (Fr b a (.inRegion ops (i :: rest) :: k)) cs w) = .next (lone (Fr b (a.put ((ops[i]?).bind (·.dst)) undef) (.inRegion ops rest :: k)) cs w) := by
  rw [← fr_finish]
  exact step_lone_go (by
    have h' := h
    simp only [Fr] at *
    simp [stepG, stepG.exec, h'])
/-- An operation is carried out: but for a 'defer' in a round. -/
theorem stG_op {ops : Array Oper} {i : Nat} {rest : List Nat} {o : Oper} (ho : ops[i]? = some o) (hw : Region.wanted o (yielded ops a.tmps) = true) (hd : b.roundOf = none ∨ ∀ c, o.op ≠ .defer c) :
    stepG P true { frame := Fr b a (.inRegion ops (i :: rest) :: k), callers := cs, status := .running, dying := none } w =
      stepG.apply P true (Fr b a (.inRegion ops (i :: rest) :: k)) cs none (execOp a.eval o) w := by
  have he := fr_eval b a (.inRegion ops (i :: rest) :: k)
  simp only [Fr] at he
  rcases hd with hd | hd
  · simp [stepG, stepG.exec, stepG.oper, Frame.oper?, Fr, ho, hw, hd] at he ⊢
    rw [he]
  · simp only [stepG, stepG.exec, stepG.oper, Frame.oper?, Fr, ho, hw, Option.map_some, Option.getD_some, if_true, he]
    split
    · rename_i l c h1 h2; exact absurd h2 (hd _)
    · rfl
end steps

/-- Where code has come to. -/
def Arr (P : Program) (m : Machine) (b : Frame) (kk : List Item) (cs : List Frame) (ρ : Rho) : AExit → Act → World → Prop
  | .normal, a, w => Steps P m (lone (Fr b a kk) cs w)
  | .exit id, a, w => ∃ k0, exitTo id k0 = exitTo id kk ∧ Steps P m (lone (Fr b a (.code (.exit id) :: k0)) cs w)
  | .ret, a, w => ∃ k0, Steps P m (lone (Fr b a (.code .ret :: k0)) cs w)
  | .panic v, a, w => ∃ k0 v', VRel ρ v v' ∧ Steps P m (lone { Fr b a k0 with mode := .panicking [{ v := v', recovered := false }] } cs w)
theorem Arr.of_steps {P : Program} {m m1 : Machine} {b : Frame} {kk : List Item} {cs : List Frame} {ρ : Rho} {e : AExit} {a : Act} {w : World} (h : Steps P m m1) (h' : Arr P m1 b kk cs ρ e a w) : Arr P m b kk cs ρ e a w := by
  cases e with
  | normal => exact h.trans h'
  | exit id => obtain ⟨k0, x, y⟩ := h'; exact ⟨k0, x, h.trans y⟩
  | ret => obtain ⟨k0, y⟩ := h'; exact ⟨k0, h.trans y⟩
  | panic v => obtain ⟨k0, v', x, y⟩ := h'; exact ⟨k0, v', x, h.trans y⟩
/-- An item that catches no exit is passed by whatever is not normal. -/
theorem Arr.pass {P : Program} {m : Machine} {b : Frame} {x : Item} {kk : List Item} {cs : List Frame} {ρ : Rho} {e : AExit} {a : Act} {w : World} (he : e ≠ .normal) (hx : ∀ id, exitTo id (x :: kk) = exitTo id kk) (h : Arr P m b (x :: kk) cs ρ e a w) : Arr P m b kk cs ρ e a w := by
  cases e with
  | normal => exact absurd rfl he
  | exit id => obtain ⟨k0, y, z⟩ := h; exact ⟨k0, y.trans (hx id), z⟩
  | ret => exact h
  | panic v => exact h

def SCode (P : Program) (fn : FuncId) (rd : Option Nat) (k : Ctx) (item : Item) (s : St) (e : AExit) (s' : St) : Prop :=
  ∀ (ρ : Rho) (w : World) (aC : Act), Rel ρ s.M w → LRel ρ s.t aC.tmps.toList → DsRel ρ s.d aC.defers →
    ∀ (b : Frame) (kk : List Item) (Cs : Bool → List Frame), b.fn = fn → b.kind = k.kind → RdRel ρ rd b.roundOf → CsOk ρ k Cs →
    ∃ ρ' w' aC', Ext ρ s.M w ρ' s'.M w' ∧ LRel ρ' s'.t aC'.tmps.toList ∧ DsRel ρ' s'.d aC'.defers ∧ Arr P (lone (Fr b aC (item :: kk)) (Cs s.rc) w) b kk (Cs s'.rc) ρ' e aC' w'

def SOp (P : Program) (fn : FuncId) (rd : Option Nat) (k : Ctx) (ops : Array Oper) (i : Nat) (s : St) (e : AExit) (s' : St) : Prop :=
  ∀ (ρ : Rho) (w : World) (aC : Act), Rel ρ s.M w → LRel ρ s.t aC.tmps.toList → DsRel ρ s.d aC.defers →
    ∀ (b : Frame) (kk : List Item) (Cs : Bool → List Frame) (l : List Nat), b.fn = fn → b.kind = k.kind → RdRel ρ rd b.roundOf → CsOk ρ k Cs →
    ∃ ρ' w' aC', Ext ρ s.M w ρ' s'.M w' ∧ LRel ρ' s'.t aC'.tmps.toList ∧ DsRel ρ' s'.d aC'.defers ∧ Arr P (lone (Fr b aC (.inRegion ops (i :: l) :: kk)) (Cs s.rc) w) b (.inRegion ops l :: kk) (Cs s'.rc) ρ' e aC' w'

def SVal (P : Program) (ops : Array Oper) (i : Nat) (t : List Value) (M : Mem) (out : Out) (M' : Mem) : Prop :=
  ∀ (o : Oper), ops[i]? = some o → ∀ (ρ : Rho) (w : World) (aC : Act), Rel ρ M w → (∀ x ∈ o.op.operands.toList, okX x = true → VRel ρ (evA t x) (aC.eval x)) → Region.wanted o (yielded ops aC.tmps) = true →
    ∀ (b : Frame) (kk : List Item) (cs : List Frame) (l : List Nat), ∃ ρ' w', Ext ρ M w ρ' M' w' ∧ match out with
      | .ret v => ∃ v', VRel ρ' v v' ∧ Steps P (lone (Fr b aC (.inRegion ops (i :: l) :: kk)) cs w) (lone (Fr b (aC.put o.dst v') (.inRegion ops l :: kk)) cs w')
      | .panic v => ∃ v', VRel ρ' v v' ∧ Steps P (lone (Fr b aC (.inRegion ops (i :: l) :: kk)) cs w) (lone { Fr b aC (.inRegion ops (i :: l) :: kk) with mode := .panicking [{ v := v', recovered := false }] } cs w')

def Leaves (P : Program) (f : FuncId) (k : Ctx) (ρ : Rho) (w : World) (fr : Frame) : Out → Prop
  | .ret v => fr.mode = .returning ∧ ∃ fn v', P.funcs[f]? = some fn ∧ (results fn fr.tmps).run P w = .ok v' w ∧ VRel ρ v v'
  | .panic v => ∃ v', fr.mode = .panicking [{ v := v', recovered := false }] ∧ VRel ρ v v' ∧ ∃ fn, P.funcs[f]? = some fn

def SCall (P : Program) (k : Ctx) (f : FuncId) (args : List Value) (M : Mem) (o : Out) (M' : Mem) (rc : Bool) : Prop :=
  ∀ (ρ : Rho) (w : World) (argsC : Array Value) (Cs : Bool → List Frame), Rel ρ M w → LRel ρ args argsC.toList → CsOk ρ k Cs →
    ∃ ρ' w' fr, Ext ρ M w ρ' M' w' ∧ Steps P (lone (Frame.enter P f argsC k.kind) (Cs false) w) (lone fr (Cs rc) w') ∧ fr.fn = f ∧ fr.defers = [] ∧ fr.kind = k.kind ∧ fr.roundOf = none ∧ Leaves P f k ρ' w' fr o

def SRound (P : Program) (l : Nat) (args : List Value) (M : Mem) (o : Out) (M' : Mem) : Prop :=
  ∀ (ρ : Rho) (w : World) (argsC : Array Value) (c : Frame) (cs : List Frame) (p : Place), Rel ρ M w → LRel ρ args argsC.toList → ρ l = some p →
    ∃ ρ' w' nx, Ext ρ M w ρ' M' w' ∧ (Instr.yield p.block argsC).run P w = .ok nx w ∧ (∃ f tmps assign body, nx = .round p.block f tmps assign body ∧
      match o with
      | .ret v => ∃ v', VRel ρ' v v' ∧ Steps P (lone (Frame.round p.block f tmps assign body .normal) (c :: cs) w) (lone (c.finish v') cs w')
      | .panic v => ∃ v', VRel ρ' v v' ∧ Steps P (lone (Frame.round p.block f tmps assign body .normal) (c :: cs) w) (lone (c.raise [{ v := v', recovered := false }]) cs w'))

def MdRel (ρ : Rho) : UMode → FrameMode → Prop
  | .returning, m => m = .returning
  | .panicking v, m => ∃ v', VRel ρ v v' ∧ m = .panicking [{ v := v', recovered := false }]

def SUnwind (P : Program) (f : FuncId) (k : Ctx) (md : UMode) (s : St) (o : Out) (M' : Mem) (rc : Bool) : Prop :=
  ∀ (ρ : Rho) (w : World) (fr : Frame) (Cs : Bool → List Frame), Rel ρ s.M w → LRel ρ s.t fr.tmps.toList → DsRel ρ s.d fr.defers → fr.fn = f → fr.kind = k.kind → fr.roundOf = none → MdRel ρ md fr.mode → CsOk ρ k Cs → (∃ fn, P.funcs[f]? = some fn) →
    ∃ ρ' w' fr', Ext ρ s.M w ρ' M' w' ∧ Steps P (lone fr (Cs s.rc) w) (lone fr' (Cs rc) w') ∧ fr'.fn = f ∧ fr'.defers = [] ∧ fr'.kind = k.kind ∧ fr'.roundOf = none ∧ Leaves P f k ρ' w' fr' o

/-- What each task's word says. -/
def Says (P : Program) : Task → Res → Prop
  | .code fn rd k c s, .code e s' => SCode P fn rd k (.code c) s e s' ∧ ∀ bd, c = .loop bd → SCode P fn rd k (.inLoop bd) s e s'
  | .val ops i t M, .call o M' _ => SVal P ops i t M o M'
  | .op fn rd k ops i s, .code e s' => SOp P fn rd k ops i s e s'
  | .ops fn rd k ops l s, .code e s' => SCode P fn rd k (.inRegion ops l) s e s'
  | .call k f args M, .call o M' rc => SCall P k f args M o M' rc
  | .round l args M, .call o M' _ => SRound P l args M o M'
  | .unwind f k md s, .call o M' rc => SUnwind P f k md s o M' rc
  | _, _ => True

end Go.Proofs.YtabkcbaknjenmaaAM

/-
  AN ABSTRACT MACHINE OVER THE MODEL, part 11: soundness.
-/
set_option linter.unusedVariables false
set_option linter.unusedSimpArgs false
namespace Go.Proofs.YtabkcbaknjenmaaAM
open Go
variable {P : Program}

/-- From a step on: the same, from the item that the step leaves. -/
theorem sc_step {fn rd k} {x y : Item} {s : St} {e : AExit} {s' : St} (hst : ∀ (b : Frame) (a : Act) (kk : List Item) (cs : List Frame) (w : World), step P (lone (Fr b a (x :: kk)) cs w) = .next (lone (Fr b a (y :: kk)) cs w)) (h : SCode P fn rd k y s e s') : SCode P fn rd k x s e s' := by
  intro ρ w aC hR ht hd b kk Cs h1 h2 h3 h4
  obtain ⟨ρ', w', aC', g1, g2, g3, g4⟩ := h ρ w aC hR ht hd b kk Cs h1 h2 h3 h4
  exact ⟨ρ', w', aC', g1, g2, g3, .of_steps (.one (hst b aC kk _ w)) g4⟩

theorem sc_here {fn rd k} {x : Item} {s : St} (hst : ∀ (b : Frame) (a : Act) (kk : List Item) (cs : List Frame) (w : World), step P (lone (Fr b a (x :: kk)) cs w) = .next (lone (Fr b a kk) cs w)) : SCode P fn rd k x s .normal s := by
  intro ρ w aC hR ht hd b kk Cs h1 h2 h3 h4
  exact ⟨ρ, w, aC, Ext.refl hR, ht, hd, .one (hst b aC kk _ w)⟩

/-- One behind the other: x leads to y and z. -/
theorem sc_two {fn rd k} {x y z : Item} {s s1 s2 : St} {e : AExit} (hst : ∀ (b : Frame) (a : Act) (kk : List Item) (cs : List Frame) (w : World), step P (lone (Fr b a (x :: kk)) cs w) = .next (lone (Fr b a (y :: z :: kk)) cs w))
    (h : SCode P fn rd k y s .normal s1) (h' : SCode P fn rd k z s1 e s2) : SCode P fn rd k x s e s2 := by
  intro ρ w aC hR ht hd b kk Cs h1 h2 h3 h4
  obtain ⟨ρ1, w1, a1, g1, g2, g3, g4⟩ := h ρ w aC hR ht hd b (z :: kk) Cs h1 h2 h3 h4
  obtain ⟨ρ2, w2, a2, k1, k2, k3, k4⟩ := h' ρ1 w1 a1 g1.rel g2 g3 b kk Cs h1 h2 (h3.mono g1.le) (h4.mono g1.le)
  exact ⟨ρ2, w2, a2, g1.trans k1, k2, k3, .of_steps (.one (hst b aC kk _ w)) (.of_steps g4 k4)⟩
theorem sc_twoX {fn rd k} {x y z : Item} {s s1 : St} {e : AExit} (hst : ∀ (b : Frame) (a : Act) (kk : List Item) (cs : List Frame) (w : World), step P (lone (Fr b a (x :: kk)) cs w) = .next (lone (Fr b a (y :: z :: kk)) cs w))
    (hz : ∀ (id : Nat) (kk : List Item), exitTo id (z :: kk) = exitTo id kk) (he : e ≠ .normal) (h : SCode P fn rd k y s e s1) : SCode P fn rd k x s e s1 := by
  intro ρ w aC hR ht hd b kk Cs h1 h2 h3 h4
  obtain ⟨ρ1, w1, a1, g1, g2, g3, g4⟩ := h ρ w aC hR ht hd b (z :: kk) Cs h1 h2 h3 h4
  exact ⟨ρ1, w1, a1, g1, g2, g3, .of_steps (.one (hst b aC kk _ w)) (.pass he (fun id => hz id kk) g4)⟩

theorem s_cond {fn rd k c x y s e s'} {t : Bool} (hx : okX c = true) (hc : evA s.t c = .bool t) (h : SCode P fn rd k (.code (if t then x else y)) s e s') : SCode P fn rd k (.code (.cond c x y)) s e s' := by
  intro ρ w aC hR ht hd b kk Cs h1 h2 h3 h4
  have hv := evA_rel ht hx
  rw [hc] at hv
  obtain ⟨ρ', w', aC', g1, g2, g3, g4⟩ := h ρ w aC hR ht hd b kk Cs h1 h2 h3 h4
  exact ⟨ρ', w', aC', g1, g2, g3, .of_steps (.one (st_cond hv.bool_inv)) g4⟩

theorem s_block {fn rd k id c s e s'} (h : SCode P fn rd k (.code c) s e s') : SCode P fn rd k (.code (.block id c)) s (e.inBlock id) s' := by
  intro ρ w aC hR ht hd b kk Cs h1 h2 h3 h4
  obtain ⟨ρ', w', aC', g1, g2, g3, g4⟩ := h ρ w aC hR ht hd b (.inBlock id :: kk) Cs h1 h2 h3 h4
  refine ⟨ρ', w', aC', g1, g2, g3, .of_steps (.one st_block) ?_⟩
  cases e with
  | normal => exact Steps.trans g4 (.one st_inBlock)
  | exit i =>
    obtain ⟨k0, hk, hs⟩ := g4
    simp only [AExit.inBlock]
    by_cases hi : i = id
    · rw [if_pos hi]
      refine Steps.trans hs (.one (st_exit ?_))
      rw [hk]; simp [exitTo, hi]
    · rw [if_neg hi]
      refine ⟨k0, ?_, hs⟩
      rw [hk]
      have : (id == i) = false := by simp; exact fun h => hi h.symm
      simp [exitTo, this]
  | ret => exact g4
  | panic v => exact g4

theorem s_exit {fn rd k id s} : SCode P fn rd k (.code (.exit id)) s (.exit id) s := by
  intro ρ w aC hR ht hd b kk Cs h1 h2 h3 h4
  exact ⟨ρ, w, aC, Ext.refl hR, ht, hd, kk, rfl, Steps.refl P _⟩
theorem s_ret {fn rd k s} : SCode P fn rd k (.code .ret) s .ret s := by
  intro ρ w aC hR ht hd b kk Cs h1 h2 h3 h4
  exact ⟨ρ, w, aC, Ext.refl hR, ht, hd, kk, Steps.refl P _⟩

/-! ### Loops -/
theorem s_loopN {fn rd k c s s1 e s2} (h : SCode P fn rd k (.code c) s .normal s1) (h' : SCode P fn rd k (.inLoop c) s1 e s2) : SCode P fn rd k (.code (.loop c)) s e s2 ∧ SCode P fn rd k (.inLoop c) s e s2 :=
  ⟨sc_two (fun b a kk cs w => st_loop) h h', sc_two (fun b a kk cs w => st_inLoop) h h'⟩
theorem s_loopX {fn rd k c s s1 e} (h : SCode P fn rd k (.code c) s e s1) (he : e ≠ .normal) : SCode P fn rd k (.code (.loop c)) s e s1 ∧ SCode P fn rd k (.inLoop c) s e s1 :=
  ⟨sc_twoX (fun b a kk cs w => st_loop) (fun _ _ => rfl) he h, sc_twoX (fun b a kk cs w => st_inLoop) (fun _ _ => rfl) he h⟩

/-! ### Operations -/
theorem put_rel {ρ : Rho} {t : List Value} {a : Act} (h : LRel ρ t a.tmps.toList) (dst : Option Tmp) {v v' : Value} (hv : VRel ρ v v') : LRel ρ (putA t dst v) (a.put dst v').tmps.toList := by
  cases dst with
  | none => exact h
  | some d => simp only [putA, Act.put, Array.toList_setIfInBounds]; exact h.set d hv
theorem put_defers (a : Act) (dst : Option Tmp) (v : Value) : (a.put dst v).defers = a.defers := by cases dst <;> rfl
theorem wanted_rel {ρ : Rho} {t : List Value} {a : Act} (h : LRel ρ t a.tmps.toList) (ops : Array Oper) (o : Oper) : Region.wanted o (yielded ops a.tmps) = wantedA ops t o := by
  unfold Region.wanted wantedA
  cases o.guard with
  | none => rfl
  | some q =>
    obtain ⟨j, want⟩ := q
    simp only
    have : yielded ops a.tmps j = yieldedA ops t j := by
      unfold yielded yieldedA
      cases hd : (ops[j]?).bind (·.dst) with
      | none => rfl
      | some d =>
        simp only [Option.bind_some]
        cases ht : t[d]? with
        | none =>
          have : a.tmps[d]? = none := by
            rw [List.getElem?_eq_none_iff] at ht
            rw [Array.getElem?_eq_none_iff]
            have := h.len; simp at this; omega
          rw [this]
        | some v =>
          obtain ⟨v', h1, h2⟩ := h.get ht
          have : a.tmps[d]? = some v' := by simpa using h1
          rw [this]
          cases h2 <;> rfl
    rw [this]

theorem s_opsNil {fn rd k ops s} : SCode P fn rd k (.inRegion ops []) s .normal s := sc_here fun b a kk cs w => st_regionEnd

theorem s_opsCons {fn rd k ops i l s s1 e s2} (h : SOp P fn rd k ops i s .normal s1) (h' : SCode P fn rd k (.inRegion ops l) s1 e s2) : SCode P fn rd k (.inRegion ops (i :: l)) s e s2 := by
  intro ρ w aC hR ht hd b kk Cs h1 h2 h3 h4
  obtain ⟨ρ1, w1, a1, g1, g2, g3, g4⟩ := h ρ w aC hR ht hd b kk Cs l h1 h2 h3 h4
  obtain ⟨ρ2, w2, a2, k1, k2, k3, k4⟩ := h' ρ1 w1 a1 g1.rel g2 g3 b kk Cs h1 h2 (h3.mono g1.le) (h4.mono g1.le)
  exact ⟨ρ2, w2, a2, g1.trans k1, k2, k3, .of_steps g4 k4⟩
theorem s_opsConsX {fn rd k ops i l s s1 e} (h : SOp P fn rd k ops i s e s1) (he : e ≠ .normal) : SCode P fn rd k (.inRegion ops (i :: l)) s e s1 := by
  intro ρ w aC hR ht hd b kk Cs h1 h2 h3 h4
  obtain ⟨ρ1, w1, a1, g1, g2, g3, g4⟩ := h ρ w aC hR ht hd b kk Cs l h1 h2 h3 h4
  exact ⟨ρ1, w1, a1, g1, g2, g3, .pass he (fun id => rfl) g4⟩

theorem s_opSkip {fn rd k ops i s o} (ho : ops[i]? = some o) (hw : wantedA ops s.t o = false) : SOp P fn rd k ops i s .normal (s.put o.dst undef) := by
  intro ρ w aC hR ht hd b kk Cs l h1 h2 h3 h4
  refine ⟨ρ, w, aC.put o.dst undef, Ext.refl hR, put_rel ht o.dst (VRel.undef ρ), by rw [put_defers]; exact hd, .one ?_⟩
  have := st_opSkip (P := P) (b := b) (a := aC) (k := kk) (cs := Cs s.rc) (w := w) (ops := ops) (i := i) (rest := l) (by rw [ho]; simp only [Option.map_some, Option.getD_some]; rw [wanted_rel ht, hw])
  rw [ho] at this
  exact this

theorem s_opVal {fn rd k ops i s o v M'} (ho : ops[i]? = some o) (hw : wantedA ops s.t o = true) (h : SVal P ops i s.t s.M (.ret v) M') : SOp P fn rd k ops i s .normal ({ s with M := M' }.put o.dst v) := by
  intro ρ w aC hR ht hd b kk Cs l h1 h2 h3 h4
  obtain ⟨ρ1, w1, k1, v', k2, k3⟩ := h o ho ρ w aC hR (fun x _ hx => evA_rel ht hx) (by rw [wanted_rel ht, hw]) b kk (Cs s.rc) l
  exact ⟨ρ1, w1, aC.put o.dst v', k1, put_rel (ht.mono k1.le) o.dst k2, by rw [put_defers]; exact hd.mono k1.le, k3⟩
theorem s_opValP {fn rd k ops i s o v M'} (ho : ops[i]? = some o) (hw : wantedA ops s.t o = true) (h : SVal P ops i s.t s.M (.panic v) M') : SOp P fn rd k ops i s (.panic v) { s with M := M' } := by
  intro ρ w aC hR ht hd b kk Cs l h1 h2 h3 h4
  obtain ⟨ρ1, w1, k1, v', k2, k3⟩ := h o ho ρ w aC hR (fun x _ hx => evA_rel ht hx) (by rw [wanted_rel ht, hw]) b kk (Cs s.rc) l
  exact ⟨ρ1, w1, aC, k1, ht.mono k1.le, hd.mono k1.le, _, v', k2, k3⟩

theorem opEval_noDefer {t : List Value} {o : Op} {M : Mem} {r : Value × Mem} (h : opEval P t o M = some r) : ∀ c, o ≠ .defer c := by
  rintro c rfl; simp [opEval] at h

theorem apply_value {fr : Frame} {cs : List Frame} {s : Sem Next} {w w' : World} {v' : Value} (h : s.run P w = .ok (.value v') w') : (stepG.apply P true fr cs none s w).bare = .go { frame := fr.finish v', callers := cs, status := .running, dying := none } w' := by
  simp [stepG.apply, h]
theorem apply_skip {fr : Frame} {cs : List Frame} {s : Sem Next} {w w' : World} (h : s.run P w = .ok .skip w') : (stepG.apply P true fr cs none s w).bare = .go { frame := fr.finish undef, callers := cs, status := .running, dying := none } w' := by
  simp [stepG.apply, h]

theorem s_valLight {ops i t M o v M'} (ho : ops[i]? = some o) (hk : okOp o.op = true) (hv : opEval P t o.op M = some (v, M')) : SVal P ops i t M (.ret v) M' := by
  intro o' ho' ρ w aC hR ht hwc b kk cs l
  rw [ho] at ho'; injection ho' with ho'; subst ho'
  obtain ⟨n, w', ρ', g1, g2, g3⟩ := op_sound P hR o (fun x hx => ht x hx (List.all_eq_true.1 hk x hx)) hv
  have hst := stG_op (P := P) (b := b) (a := aC) (k := kk) (cs := cs) (w := w) (rest := l) ho hwc (.inr (opEval_noDefer hv))
  rcases g2 with ⟨v', rfl, hv'⟩ | ⟨rfl, rfl⟩
  · refine ⟨ρ', w', g3, v', hv', .one (step_lone_go ?_)⟩
    rw [hst, apply_value g1, fr_finish, ho]; rfl
  · refine ⟨ρ', w', g3, undef, VRel.undef ρ', .one (step_lone_go ?_)⟩
    rw [hst, apply_skip g1, fr_finish, ho]; rfl

/-! ### Calls -/
theorem run_callFunc {f : FuncId} (hw : walksIn P f = true) (args : Array Value) (w : World) : (callFunc f args).run P w = .ok (.enter f args) w := by
  unfold walksIn at hw
  cases hf : P.funcs[f]? with
  | none => simp [hf] at hw
  | some fn =>
    simp only [hf, Bool.and_eq_true, Bool.not_eq_true'] at hw
    have hb : fn.body.isNone = false := by cases h : fn.body <;> simp_all
    have hne : fn.name ≠ "runtime.NumGoroutine" := by simpa using hw.2
    simp [callFunc, hf, hne, hb]
    intro hn; rw [hn] at hb; simp at hb

theorem calleeA_run {ρ : Rho} {t : List Value} {a : Act} {c : Call} (ev : ∀ x ∈ c.operands.toList, VRel ρ (evA t x) (a.eval x)) {g : FuncId} {args : List Value} (h : calleeA t c = some (g, args)) (hwk : walksIn P g = true) (ty : TypeId) (w : World) :
    ∃ argsC : Array Value, LRel ρ args argsC.toList ∧ ((do let d ← resolve a.eval c ty; invoke d.target d.args) : Sem Next).run P w = .ok (.enter g argsC) w := by
  unfold calleeA at h
  obtain ⟨callee, cargs, ats⟩ := c
  cases callee with
  | value f =>
    simp only at h
    have hf := ev f (by simp [Call.operands])
    have ha : ∀ x ∈ cargs.toList, VRel ρ (evA t x) (a.eval x) := fun x hx => ev x (by simp [Call.operands]; exact .inr (by simpa using hx))
    split at h
    · rename_i g' first cap hev
      injection h with h; injection h with h1 h2; subst h1; subst h2
      rw [hev] at hf
      obtain ⟨first', cap', he, hf1, hf2⟩ := hf.fn_inv
      refine ⟨first' ++ cargs.map a.eval ++ cap', ?_, ?_⟩
      · simp only [Array.toList_append, Array.toList_map]
        exact (hf1.append (LRel.map_of _ ha)).append hf2
      · simp [resolve, he, Deferred.ofValue, invoke, run_callFunc hwk]
    · simp at h
  | builtin b => simp at h
  | invoke r m => simp at h

theorem step_leave {f : FuncId} {fr c : Frame} {cs : List Frame} {w : World} {v : Value} (hm : fr.mode = .returning) (hd : fr.defers = []) (hk : fr.kind = .normal) (hfn : fr.fn = f) {fn : Func} (hf : P.funcs[f]? = some fn) (hr : (results fn fr.tmps).run P w = .ok v w) :
    step P (lone fr (c :: cs) w) = .next (lone (c.finish v) cs w) := by
  subst hfn
  exact step_lone_go (by simp [stepG, unwind, doReturn, hm, hd, hk, hf, hr])
theorem step_leaveP {f : FuncId} {fr c : Frame} {cs : List Frame} {w : World} {ch : List PanicEntry} (hm : fr.mode = .panicking ch) (hd : fr.defers = []) (hfn : fr.fn = f) {fn : Func} (hf : P.funcs[f]? = some fn) :
    step P (lone fr (c :: cs) w) = .next (lone (c.raise ch) cs w) := by
  subst hfn
  exact step_lone_go (by simp [stepG, unwind, Frame.catches, hm, hd, hf])

theorem s_valCall {ops i t M o c g args out M' rc} (ho : ops[i]? = some o) (hk : okOp o.op = true) (hop : o.op = .call c) (hc : calleeA t c = some (g, args)) (hwk : walksIn P g = true) (hg : SCall P .normal g args M out M' rc) : SVal P ops i t M out M' := by
  intro o' ho' ρ w aC hR ht hwc b kk cs l
  rw [ho] at ho'; injection ho' with ho'; subst ho'
  have ev : ∀ x ∈ c.operands.toList, VRel ρ (evA t x) (aC.eval x) := by
    rw [hop] at ht hk
    exact fun x hx => ht x (by simpa [Op.operands] using hx) (List.all_eq_true.1 hk x (by simpa [Op.operands] using hx))
  obtain ⟨argsC, ga, hrun⟩ := calleeA_run ev hc hwk o.type w
  have hst := stG_op (P := P) (b := b) (a := aC) (k := kk) (cs := cs) (w := w) (rest := l) ho hwc (.inr (by rw [hop]; intro c h; cases h))
  have hex : execOp aC.eval o = (do let d ← resolve aC.eval c o.type; invoke d.target d.args) := by simp only [execOp, hop]
  have hent : step P (lone (Fr b aC (.inRegion ops (i :: l) :: kk)) cs w) = .next (lone (Frame.enter P g argsC .normal) (Fr b aC (.inRegion ops (i :: l) :: kk) :: cs) w) := by
    refine step_lone_go ?_
    rw [hst, hex]
    simp [stepG.apply, hrun, Fr]
  cases out with
  | ret v =>
    obtain ⟨ρ', w', fr, k1, k2, k3, k4, k5, k6, k7, fn2, v', k8, k9, k10⟩ := hg ρ w argsC (fun _ => Fr b aC (.inRegion ops (i :: l) :: kk) :: cs) hR ga (fun _ => rfl)
    refine ⟨ρ', w', k1, v', k10, .head hent (k2.trans (.one ?_))⟩
    rw [step_leave k7 k4 k5 k3 k8 k9, fr_finish, ho]
    rfl
  | panic v =>
    obtain ⟨ρ', w', fr, k1, k2, k3, k4, k5, k6, v', k7, k8, fn2, k9⟩ := hg ρ w argsC (fun _ => Fr b aC (.inRegion ops (i :: l) :: kk) :: cs) hR ga (fun _ => rfl)
    refine ⟨ρ', w', k1, v', k8, .head hent (k2.trans (.one ?_))⟩
    rw [step_leaveP k7 k4 k3 k9]
    rfl

theorem s_opPanic {fn rd k ops i s o x ty v} (ho : ops[i]? = some o) (hw : wantedA ops s.t o = true) (hk : okOp o.op = true) (hop : o.op = .panic x) (hv : evA s.t x = .iface ty v) : SOp P fn rd k ops i s (.panic (.iface ty v)) s := by
  intro ρ w aC hR ht hd b kk Cs l h1 h2 h3 h4
  have hx := evA_rel ht (x := x) (List.all_eq_true.1 hk x (by rw [hop]; simp [Op.operands]))
  rw [hv] at hx
  have hwc : Region.wanted o (yielded ops aC.tmps) = true := by rw [wanted_rel ht, hw]
  have hst := stG_op (P := P) (b := b) (a := aC) (k := kk) (cs := Cs s.rc) (w := w) (rest := l) ho hwc (.inr (by rw [hop]; intro c h; cases h))
  obtain ⟨v', he⟩ : ∃ v', aC.eval x = .iface ty v' := by
    generalize aC.eval x = vx at hx
    cases hx; exact ⟨_, rfl⟩
  refine ⟨ρ, w, aC, Ext.refl hR, ht, hd, .inRegion ops (i :: l) :: kk, .iface ty v', he ▸ hx, .one (step_lone_go ?_)⟩
  have hex : (execOp aC.eval o).run P w = .halt (.panic (.iface ty v')) w := by simp [execOp, hop, Instr.panic, he]
  rw [hst]
  simp [stepG.apply, hex, Frame.raise, Fr]

/-! ### Frames that end -/
def resC (tC : Array Value) : ResultVar → Sem Value
  | .tmp t => pure (tC.getD t undef)
  | .cell a t => do loadVar t (← asAddr (tC.getD a undef))
theorem results_eq (fn : Func) (tC : Array Value) : results fn tC = (do let vs ← fn.results.mapM (resC tC); pure (if h : vs.size = 1 then vs[0] else .tuple vs)) := by
  unfold results
  congr 1
theorem run_resultA {ρ : Rho} {M : Mem} {w : World} (hR : Rel ρ M w) {t : List Value} {tC : Array Value} (ht : LRel ρ t tC.toList) {x : ResultVar} {v : Value} (h : resultA P t M x = some v) :
    ∃ v', (resC tC x).run P w = .ok v' w ∧ VRel ρ v v' := by
  have get : ∀ i, VRel ρ (t.getD i undef) (tC.getD i undef) := by
    intro i
    have := ht.getD i (VRel.undef ρ)
    rw [Array.getD_eq_getD_getElem?, ← Array.getElem?_toList, ← List.getD_eq_getElem?_getD]
    exact this
  cases x with
  | tmp i => simp [resultA] at h; subst h; refine ⟨_, rfl, ?_⟩; have := get i; simpa using this
  | cell i ty =>
    simp only [resultA] at h
    have hi := get i
    split at h
    · rename_i b o hb
      rw [hb] at hi
      obtain ⟨p, e, he⟩ := hi.ptr_inv
      obtain ⟨v', h1, h2⟩ := run_rdVar P hR e h
      exact ⟨v', by simp [resC, he, asAddr, h1], h2⟩
    · simp at h

theorem run_resultsA {ρ : Rho} {M : Mem} {w : World} (hR : Rel ρ M w) {fn : Func} {t : List Value} {tC : Array Value} (ht : LRel ρ t tC.toList) {v : Value} (h : resultsA P fn t M = some v) : ∃ v', (results fn tC).run P w = .ok v' w ∧ VRel ρ v v' := by
  unfold resultsA at h
  have key : ∀ (l : List ResultVar) (vs : List Value), l.mapM (resultA P t M) = some vs →
      ∃ vs', (l.mapM (resC tC)).run P w = .ok vs' w ∧ LRel ρ vs vs' := by
    intro l
    induction l with
    | nil => intro vs h; simp at h; subst h; exact ⟨[], by simp, .nil ρ⟩
    | cons x l ih =>
      intro vs h
      simp only [List.mapM_cons, Option.bind_eq_bind, Option.pure_def] at h
      cases hx : resultA P t M x with
      | none => simp [hx] at h
      | some v0 =>
        cases hl : l.mapM (resultA P t M) with
        | none => simp [hx, hl] at h
        | some vs0 =>
          simp [hx, hl] at h
          subst h
          obtain ⟨v', a1, a2⟩ := run_resultA (P := P) hR ht hx
          obtain ⟨vs', b1, b2⟩ := ih vs0 hl
          refine ⟨v' :: vs', ?_, .cons a2 b2⟩
          simp only [List.mapM_cons, Sem.run_bind, a1, Result.andThen_ok, b1, Sem.run_pure]
  cases hm : fn.results.toList.mapM (resultA P t M) with
  | none => simp [hm] at h
  | some vs =>
    simp [hm] at h
    obtain ⟨vs', h1, h2⟩ := key _ vs hm
    have hrun : (results fn tC).run P w = .ok (if h : vs'.toArray.size = 1 then vs'.toArray[0] else .tuple vs'.toArray) w := by
      rw [results_eq, Array.mapM_eq_mapM_toList]
      simp only [Sem.run_bind, Sem.run_map, h1, Result.andThen_ok, Sem.run_pure]
    refine ⟨_, hrun, ?_⟩
    subst h
    match vs, vs', h2 with
    | [], [], h2 => simpa using VRel.tuple_of h2
    | [a], [b], h2 => simpa using h2.at_ 0 a b rfl rfl
    | a :: b :: l, a' :: b' :: l', h2 => simpa using VRel.tuple_of h2
    | [], b :: l, h2 => exact absurd h2.len (by simp)
    | a :: l, [], h2 => exact absurd h2.len (by simp)
    | [a], b :: c :: l, h2 => exact absurd h2.len (by simp)
    | a :: b :: l, [c], h2 => exact absurd h2.len (by simp)

theorem s_unwRet {f k s fn v} (hf : P.funcs[f]? = some fn) (hd : s.d = []) (hr : resultsA P fn s.t s.M = some v) : SUnwind P f k .returning s (.ret v) s.M s.rc := by
  intro ρ w fr Cs hR ht hds h1 h2 h3 h4 h5 h6
  obtain ⟨v', g1, g2⟩ := run_resultsA hR ht hr
  rw [hd] at hds
  exact ⟨ρ, w, fr, Ext.refl hR, Steps.refl P _, h1, hds.nil_inv, h2, h3, h4, fn, v', hf, g1, g2⟩
theorem s_unwPanic {f k s v} (hd : s.d = []) : SUnwind P f k (.panicking v) s (.panic v) s.M s.rc := by
  intro ρ w fr Cs hR ht hds h1 h2 h3 h4 h5 h6
  rw [hd] at hds
  obtain ⟨v', a, b⟩ := h4
  exact ⟨ρ, w, fr, Ext.refl hR, Steps.refl P _, h1, hds.nil_inv, h2, h3, v', b, a, h6⟩

theorem s_unwMark {f k m s r ds o M' rc} (hd : s.d = .mark r :: ds) (hm : s.M[r]? = some (.defers false)) (h : SUnwind P f k m { s with d := ds, M := s.M.set r (.defers true) } o M' rc) : SUnwind P f k m s o M' rc := by
  intro ρ w fr Cs hR ht hds h1 h2 h3 h4 h5 h6
  rw [hd] at hds
  obtain ⟨d, ds', hfd, ⟨p, hp, rfl⟩, hds'⟩ := hds.cons_inv
  obtain ⟨ob, hob, hor⟩ := hR.obj r p hp
  rw [hm] at hob; injection hob with hob; subst hob
  have hb : w.heap[p.block]? = some (.deferred (some [])) := hor
  have hbl := hR.blk _ _ hp
  let w1 : World := { w with heap := w.heap.setIfInBounds p.block (.deferred none) }
  have hext : Ext ρ s.M w ρ (s.M.set r (.defers true)) w1 := Ext.upd hR hp hm rfl rfl rfl rfl rfl (by simp [w1]) (fun k hk => by simp [w1, Array.getElem?_setIfInBounds, hk.symm]) (by show w1.heap[p.block]? = some (.deferred none); simp [w1, hbl]) (by rw [hb]; simp [w1, hbl, frzO])
  have hrun : (Instr.takeDeferred p.block).run P w = .ok [] w1 := by simp [Instr.takeDeferred, getObj, setObj, Sem.run, hb, w1]
  have hnm : fr.mode ≠ .run := by
    cases m with
    | returning => rw [h4]; simp
    | panicking v => obtain ⟨v', _, e⟩ := h4; rw [e]; simp
  have hst : step P (lone fr (Cs s.rc) w) = .next (lone { fr with defers := ds' } (Cs s.rc) w1) := by
    refine step_lone_go ?_
    cases hmode : fr.mode with
    | run => exact absurd hmode hnm
    | returning => simp [stepG, hmode, unwind, hfd, hrun]
    | panicking ch => simp [stepG, hmode, unwind, hfd, hrun]
  obtain ⟨ρ', w', fr', g1, g2, g3⟩ := h ρ w1 { fr with defers := ds' } Cs hext.rel ht hds' h1 h2 h3 h4 h5 h6
  exact ⟨ρ', w', fr', hext.trans g1, .head hst g2, g3⟩

theorem s_callBody {k f args M fn c e s1 o M' rc} (hf : P.funcs[f]? = some fn) (hb : fn.body = some c) (h : SCode P f none k (.code c) (startSt fn args M) e s1) (he : e = .normal ∨ e = .ret) (hu : SUnwind P f k .returning s1 o M' rc) : SCall P k f args M o M' rc := by
  intro ρ w argsC Cs hR ha hC
  let b : Frame := { (default : Frame) with fn := f, kind := k.kind }
  have hlen : args.length = argsC.size := by have := ha.len; simpa using this
  let a0 : Act := { tmps := argsC ++ Array.replicate (fn.ntmps - argsC.size) undef, defers := [] }
  have henter : Frame.enter P f argsC k.kind = Fr b a0 [.code c] := by simp [Frame.enter, Fr, hf, hb, b, a0]; rfl
  have ht : LRel ρ (startSt fn args M).t a0.tmps.toList := by
    simp only [startSt, a0, Array.toList_append, Array.toList_replicate]
    rw [hlen]
    exact ha.append (LRel.replicate _ (VRel.undef ρ))
  obtain ⟨ρ1, w1, a1, g1, g2, g3, g4⟩ := h ρ w a0 hR ht trivial b [] Cs rfl rfl trivial hC
  rw [henter]
  have fin : ∀ k0, Steps P (lone (Fr b a0 [.code c]) (Cs false) w) (lone { Fr b a1 k0 with mode := .returning } (Cs s1.rc) w1) → ∃ ρ' w' fr, Ext ρ M w ρ' M' w' ∧ Steps P (lone (Fr b a0 [.code c]) (Cs false) w) (lone fr (Cs rc) w') ∧ fr.fn = f ∧ fr.defers = [] ∧ fr.kind = k.kind ∧ fr.roundOf = none ∧ Leaves P f k ρ' w' fr o := by
    intro k0 hs
    obtain ⟨ρ2, w2, fr, k1, k2, k3⟩ := hu ρ1 w1 { Fr b a1 k0 with mode := .returning } Cs g1.rel g2 g3 rfl rfl rfl rfl (hC.mono g1.le) ⟨fn, hf⟩
    exact ⟨ρ2, w2, fr, g1.trans k1, hs.trans k2, k3⟩
  rcases he with rfl | rfl
  · exact fin [] (Steps.trans g4 (.one (st_end rfl)))
  · obtain ⟨k0, hs⟩ := g4
    exact fin _ (hs.trans (.one (st_ret rfl)))

theorem s_callPanic {k f args M fn c v s1 o M' rc} (hf : P.funcs[f]? = some fn) (hb : fn.body = some c) (h : SCode P f none k (.code c) (startSt fn args M) (.panic v) s1) (hu : SUnwind P f k (.panicking v) s1 o M' rc) : SCall P k f args M o M' rc := by
  intro ρ w argsC Cs hR ha hC
  let b : Frame := { (default : Frame) with fn := f, kind := k.kind }
  have hlen : args.length = argsC.size := by have := ha.len; simpa using this
  let a0 : Act := { tmps := argsC ++ Array.replicate (fn.ntmps - argsC.size) undef, defers := [] }
  have henter : Frame.enter P f argsC k.kind = Fr b a0 [.code c] := by simp [Frame.enter, Fr, hf, hb, b, a0]; rfl
  have ht : LRel ρ (startSt fn args M).t a0.tmps.toList := by
    simp only [startSt, a0, Array.toList_append, Array.toList_replicate]
    rw [hlen]
    exact ha.append (LRel.replicate _ (VRel.undef ρ))
  obtain ⟨ρ1, w1, a1, g1, g2, g3, k0, v', g4, g5⟩ := h ρ w a0 hR ht trivial b [] Cs rfl rfl trivial hC
  rw [henter]
  obtain ⟨ρ2, w2, fr, k1, k2, k3⟩ := hu ρ1 w1 { Fr b a1 k0 with mode := .panicking [{ v := v', recovered := false }] } Cs g1.rel g2 g3 rfl rfl rfl ⟨v', g4, rfl⟩ (hC.mono g1.le) ⟨fn, hf⟩
  exact ⟨ρ2, w2, fr, g1.trans k1, g5.trans k2, k3⟩

/-! ### Rounds -/
theorem setParams_rel {ρ : Rho} : ∀ (ps : List Tmp) (args args' : List Value) (t : List Value) (tC : Array Value), LRel ρ args args' → LRel ρ t tC.toList →
    LRel ρ ((ps.zip args).foldl (fun t q => t.set q.1 q.2) t) ((ps.zip args').foldl (fun (t : Array Value) q => t.setIfInBounds q.1 q.2) tC).toList
  | [], _, _, t, tC, _, ht => by simpa using ht
  | p :: ps, [], [], t, tC, _, ht => by simpa using ht
  | p :: ps, a :: as, b :: bs, t, tC, h, ht => by
    simp only [List.zip_cons_cons, List.foldl_cons]
    refine setParams_rel ps as bs _ _ ⟨by have := h.len; simpa using this, fun i x y hx hy => h.at_ (i + 1) x y (by simpa using hx) (by simpa using hy)⟩ ?_
    rw [Array.toList_setIfInBounds]
    exact ht.set p (h.at_ 0 a b rfl rfl)
  | _ :: _, [], _ :: _, _, _, h, _ => absurd h.len (by simp)
  | _ :: _, _ :: _, [], _, _, h, _ => absurd h.len (by simp)

/-- The loop's record is turned. -/
theorem loop_upd {ρ : Rho} {M : Mem} {w : World} (hR : Rel ρ M w) {l : Nat} {p : Place} (hp : ρ l = some p) {st pd fn t ps as bd df} (hl : M[l]? = some (.loop st pd fn t ps as bd df)) (st' : LoopState) (pd' : Option Code) :
    ∃ tmps q, w.heap[p.block]? = some (.loop ⟨st, pd, fn, tmps, ps, as, bd, q⟩) ∧ LRel ρ t tmps.toList ∧ Ext ρ M w ρ (M.set l (.loop st' pd' fn t ps as bd df)) { w with heap := w.heap.setIfInBounds p.block (.loop ⟨st', pd', fn, tmps, ps, as, bd, q⟩) } := by
  obtain ⟨ob, hob, hor⟩ := hR.obj l p hp
  rw [hl] at hob; injection hob with hob; subst hob
  obtain ⟨tmps, q, hb, ht, pd2, hd1, hd2⟩ := hor
  have hbl := hR.blk _ _ hp
  exact ⟨tmps, q, hb, ht, Ext.upd hR hp hl rfl rfl rfl rfl rfl (by simp) (fun k hk => by simp [Array.getElem?_setIfInBounds, hk.symm]) ⟨tmps, q, by simp [hbl], ht, pd2, hd1, hd2⟩ (by rw [hb]; simp [hbl, frzO])⟩

theorem st_beginRound {b : Frame} {a : Act} {k : List Item} {cs : List Frame} {w w' : World} {l : Nat} (hr : b.roundOf = some l) (h : (Instr.beginRound l).run P w = .ok () w') :
    step P (lone (Fr b a (.beginRound :: k)) cs w) = .next (lone (Fr b a k) cs w') := by
  refine step_lone_go ?_
  simp [stepG, stepG.exec, Fr, hr, stepG.apply, h, Frame.finish]

theorem st_roundEnd {b : Frame} {a : Act} {todo : List Item} {c : Frame} {cs : List Frame} {w w' : World} {l : Nat} {v : Value} {j : Option Code} (hr : b.roundOf = some l) (hk : b.kind = .normal) (h : (Instr.endRound l j).run P w = .ok v w')
    (ht : (todo = [] ∧ j = none) ∨ (∃ k, todo = .code .ret :: k ∧ j = some .ret) ∨ (∃ id k, todo = .code (.exit id) :: k ∧ exitTo id k = none ∧ j = some (.exit id))) :
    step P (lone (Fr b a todo) (c :: cs) w) = .next (lone (c.finish v) cs w') := by
  refine step_lone_go ?_
  rcases ht with ⟨rfl, rfl⟩ | ⟨k, rfl, rfl⟩ | ⟨id, k, rfl, he, rfl⟩
  · simp [stepG, stepG.exec, Fr, hr, h, doReturn, hk]
  · simp [stepG, stepG.exec, Fr, hr, h, doReturn, hk]
  · simp [stepG, stepG.exec, Fr, hr, h, doReturn, hk, he]

theorem run_yield {w : World} {l : Nat} {r : Loop} (hb : w.heap[l]? = some (.loop r)) (args : Array Value) (hn : args.size = r.params.size) :
    (Instr.yield l args).run P w = .ok (.round l r.fn ((r.params.zip args).foldl (fun tmps (t, a) => tmps.setIfInBounds t a) r.tmps) r.assign r.body) w := by
  simp [Instr.yield, Instr.getLoop, getObj, Sem.run, hb, hn]

section
variable {l : Nat} {args : List Value} {M : Mem} {st : LoopState} {pd : Option Code} {fn : FuncId} {t : List Value} {ps : Array Tmp} {as bd : Code} {df : Nat}
/-- A round up to its body. -/
theorem round_begins {s1 : St} {pd1 fn1 t1 ps1 as1 bd1 df1} (hl : M[l]? = some (.loop st pd fn t ps as bd df)) (hn : args.length = ps.size)
    (ha : SCode P fn (some l) .normal (.code as) ⟨setParams t ps args, [], M, false⟩ .normal s1) (hl1 : s1.M[l]? = some (.loop .ready pd1 fn1 t1 ps1 as1 bd1 df1)) (hrc : s1.rc = false ∨ True)
    (ρ : Rho) (w : World) (argsC : Array Value) (cs : List Frame) (p : Place) (hR : Rel ρ M w) (hargs : LRel ρ args argsC.toList) (hp : ρ l = some p) :
    ∃ (ρ1 : Rho) (w1 : World) (aC : Act) (b : Frame) (tmps : Array Value), b.fn = fn ∧ b.kind = .normal ∧ b.roundOf = some p.block ∧ Ext ρ M w ρ1 (s1.M.set l (.loop .busy pd1 fn1 t1 ps1 as1 bd1 df1)) w1 ∧ LRel ρ1 s1.t aC.tmps.toList ∧ DsRel ρ1 s1.d aC.defers ∧ ρ1 l = some p ∧
      (Instr.yield p.block argsC).run P w = .ok (.round p.block fn tmps as bd) w ∧ Steps P (lone (Frame.round p.block fn tmps as bd .normal) cs w) (lone (Fr b aC [.code bd]) cs w1) := by
  obtain ⟨ob, hob, hor⟩ := hR.obj l p hp
  rw [hl] at hob; injection hob with hob; subst hob
  obtain ⟨tmpsC, q, hb, ht, pd2, hd1, hd2⟩ := hor
  have hlen : argsC.size = ps.size := by have := hargs.len; simp at this; omega
  have hy := run_yield (P := P) hb argsC hlen
  generalize htm : (ps.zip argsC).foldl (fun (tmps : Array Value) (q : Tmp × Value) => tmps.setIfInBounds q.1 q.2) tmpsC = tmps at hy
  have htr : LRel ρ (setParams t ps args) tmps.toList := by
    rw [← htm]
    unfold setParams
    have := setParams_rel ps.toList args argsC.toList t tmpsC hargs ht
    rw [← Array.foldl_toList, Array.toList_zip]
    exact this
  let b : Frame := { fn := fn, tmps := #[], todo := [], defers := [], mode := .run, kind := .normal, roundOf := some p.block }
  have hframe : Frame.round p.block fn tmps as bd .normal = Fr b ⟨tmps, []⟩ [.code as, .beginRound, .code bd] := rfl
  obtain ⟨ρ1, w1, a1, g1, g2, g3, g4⟩ := ha ρ w ⟨tmps, []⟩ hR htr trivial b [.beginRound, .code bd] (fun _ => cs) rfl rfl ⟨p, hp, rfl⟩ (fun _ => rfl)
  have hp1 := g1.le _ _ hp
  obtain ⟨tmps2, q2, hb2, ht2, hext⟩ := loop_upd g1.rel hp1 hl1 .busy pd1
  refine ⟨ρ1, _, a1, b, tmps, rfl, rfl, rfl, g1.trans hext, g2, g3, hp1, ?_, ?_⟩
  · rw [hy]
  · rw [hframe]
    refine Steps.trans g4 (.one (st_beginRound rfl ?_))
    simp [Instr.beginRound, Instr.getLoop, getObj, setObj, Sem.run, hb2]
end

theorem exitTo_nil (id : Nat) : exitTo id [] = none := rfl

theorem s_round {l args M st pd fn t ps as bd df s1 pd1 fn1 t1 ps1 as1 bd1 df1 e s2 st2 pd2 fn2 t2 ps2 as2 bd2 df2} (hl : M[l]? = some (.loop st pd fn t ps as bd df)) (hn : args.length = ps.size)
    (ha : SCode P fn (some l) .normal (.code as) ⟨setParams t ps args, [], M, false⟩ .normal s1) (hl1 : s1.M[l]? = some (.loop .ready pd1 fn1 t1 ps1 as1 bd1 df1))
    (hb : SCode P fn (some l) .normal (.code bd) { s1 with M := s1.M.set l (.loop .busy pd1 fn1 t1 ps1 as1 bd1 df1) } e s2)
    (hl2 : s2.M[l]? = some (.loop st2 pd2 fn2 t2 ps2 as2 bd2 df2)) {j : Option Code} (hj : (e = .normal ∧ j = none) ∨ (e = .ret ∧ j = some .ret) ∨ ∃ id, e = .exit id ∧ j = some (.exit id)) :
    SRound P l args M (.ret (.bool j.isNone)) (s2.M.set l (.loop (if j.isNone then .ready else .done) j fn2 t2 ps2 as2 bd2 df2)) := by
  intro ρ w argsC c cs p hR hargs hp
  obtain ⟨ρ1, w1, aC, b, tmps, b1, b2, b3, g1, g2, g3, g4, g5, g6⟩ := round_begins (P := P) hl hn ha hl1 (.inr trivial) ρ w argsC (c :: cs) p hR hargs hp
  obtain ⟨ρ2, w2, a2, k1, k2, k3, k4⟩ := hb ρ1 w1 aC g1.rel g2 g3 b [] (fun _ => c :: cs) b1 b2 (by rw [b3]; exact ⟨p, g4, rfl⟩) (fun _ => rfl)
  have hp2 := k1.le _ _ g4
  obtain ⟨tmps2, q2, hb2, ht2, hext⟩ := loop_upd k1.rel hp2 hl2 (if j.isNone then .ready else .done) j
  refine ⟨ρ2, _, _, (g1.trans k1).trans hext, g5, fn, tmps, as, bd, rfl, .bool j.isNone, .bool _, ?_⟩
  have hend : (Instr.endRound p.block j).run P w2 = .ok (.bool j.isNone) { w2 with heap := w2.heap.setIfInBounds p.block (.loop ⟨if j.isNone then .ready else .done, j, fn2, tmps2, ps2, as2, bd2, q2⟩) } := by
    simp [Instr.endRound, Instr.getLoop, getObj, setObj, Sem.run, hb2]
  rcases hj with ⟨rfl, rfl⟩ | ⟨rfl, rfl⟩ | ⟨id, rfl, rfl⟩
  · exact g6.trans (Steps.trans k4 (.one (st_roundEnd b3 b2 hend (.inl ⟨rfl, rfl⟩))))
  · obtain ⟨k0, hs⟩ := k4
    exact g6.trans (hs.trans (.one (st_roundEnd b3 b2 hend (.inr (.inl ⟨k0, rfl, rfl⟩)))))
  · obtain ⟨k0, he, hs⟩ := k4
    exact g6.trans (hs.trans (.one (st_roundEnd b3 b2 hend (.inr (.inr ⟨id, k0, rfl, he, rfl⟩)))))

theorem step_panicUp {fr c : Frame} {cs : List Frame} {w : World} {ch : List PanicEntry} (hm : fr.mode = .panicking ch) (hd : fr.defers = []) (hf : ∃ fn, P.funcs[fr.fn]? = some fn) :
    step P (lone fr (c :: cs) w) = .next (lone (c.raise ch) cs w) := by
  obtain ⟨fn, hf⟩ := hf
  exact step_lone_go (by simp [stepG, unwind, Frame.catches, hm, hd, hf])

theorem s_roundP {l args M st pd fn t ps as bd df s1 pd1 fn1 t1 ps1 as1 bd1 df1 v s2} (hl : M[l]? = some (.loop st pd fn t ps as bd df)) (hn : args.length = ps.size) (hfn : ∃ x, P.funcs[fn]? = some x)
    (ha : SCode P fn (some l) .normal (.code as) ⟨setParams t ps args, [], M, false⟩ .normal s1) (hl1 : s1.M[l]? = some (.loop .ready pd1 fn1 t1 ps1 as1 bd1 df1))
    (hb : SCode P fn (some l) .normal (.code bd) { s1 with M := s1.M.set l (.loop .busy pd1 fn1 t1 ps1 as1 bd1 df1) } (.panic v) s2) (hd2 : s2.d = []) : SRound P l args M (.panic v) s2.M := by
  intro ρ w argsC c cs p hR hargs hp
  obtain ⟨ρ1, w1, aC, b, tmps, b1, b2, b3, g1, g2, g3, g4, g5, g6⟩ := round_begins (P := P) hl hn ha hl1 (.inr trivial) ρ w argsC (c :: cs) p hR hargs hp
  obtain ⟨ρ2, w2, a2, k1, k2, k3, k0, v', k4, k5⟩ := hb ρ1 w1 aC g1.rel g2 g3 b [] (fun _ => c :: cs) b1 b2 (by rw [b3]; exact ⟨p, g4, rfl⟩) (fun _ => rfl)
  rw [hd2] at k3
  refine ⟨ρ2, w2, _, g1.trans k1, g5, fn, tmps, as, bd, rfl, v', k4, ?_⟩
  refine g6.trans (k5.trans (.one ?_))
  exact step_panicUp rfl k3.nil_inv (by simpa [Fr, b1] using hfn)

theorem yieldA_run {ρ : Rho} {t : List Value} {a : Act} {c : Call} (ev : ∀ x ∈ c.operands.toList, VRel ρ (evA t x) (a.eval x)) {n : Nat} {args : List Value} (h : yieldA t c = some (n, args)) (ty : TypeId) :
    ∃ (p : Place) (argsC : Array Value), ρ n = some p ∧ LRel ρ args argsC.toList ∧ ((do let d ← resolve a.eval c ty; invoke d.target d.args) : Sem Next) = Instr.yield p.block argsC := by
  unfold yieldA at h
  obtain ⟨callee, cargs, ats⟩ := c
  cases callee with
  | value f =>
    simp only at h
    have hf := ev f (by simp [Call.operands])
    have ha : ∀ x ∈ cargs.toList, VRel ρ (evA t x) (a.eval x) := fun x hx => ev x (by simp [Call.operands]; exact .inr (by simpa using hx))
    split at h
    · rename_i l p q hev
      injection h with h; injection h with h1 h2; subst h1; subst h2
      rw [hev] at hf
      have : ∃ p, ρ l = some p ∧ a.eval f = .func (.yield p.block) #[] #[] := by
        generalize a.eval f = vf at hf
        cases hf with | yield e => exact ⟨_, e, rfl⟩
      obtain ⟨p, hp, he⟩ := this
      refine ⟨p, cargs.map a.eval, hp, ?_, ?_⟩
      · simp only [Array.toList_map]; exact LRel.map_of _ ha
      · simp [resolve, he, Deferred.ofValue, invoke]
    · simp at h
  | builtin b => simp at h
  | invoke r m => simp at h

theorem s_valYield {ops i t M o c n args out M'} (ho : ops[i]? = some o) (hk : okOp o.op = true) (hop : o.op = .call c) (hc : yieldA t c = some (n, args)) (hg : SRound P n args M out M') : SVal P ops i t M out M' := by
  intro o' ho' ρ w aC hR ht hwc b kk cs l
  rw [ho] at ho'; injection ho' with ho'; subst ho'
  have ev : ∀ x ∈ c.operands.toList, VRel ρ (evA t x) (aC.eval x) := by
    rw [hop] at ht hk
    exact fun x hx => ht x (by simpa [Op.operands] using hx) (List.all_eq_true.1 hk x (by simpa [Op.operands] using hx))
  obtain ⟨p, argsC, hp, ga, hrun⟩ := yieldA_run ev hc o.type
  have hst := stG_op (P := P) (b := b) (a := aC) (k := kk) (cs := cs) (w := w) (rest := l) ho hwc (.inr (by rw [hop]; intro c h; cases h))
  have hex : execOp aC.eval o = Instr.yield p.block argsC := by simp only [execOp, hop, hrun]
  obtain ⟨ρ', w', nx, k1, k2, f, tmps, as, bd, rfl, k3⟩ := hg ρ w argsC (Fr b aC (.inRegion ops (i :: l) :: kk)) cs p hR ga hp
  have hent : step P (lone (Fr b aC (.inRegion ops (i :: l) :: kk)) cs w) = .next (lone (Frame.round p.block f tmps as bd .normal) (Fr b aC (.inRegion ops (i :: l) :: kk) :: cs) w) := by
    refine step_lone_go ?_
    rw [hst, hex]
    simp [stepG.apply, k2]
  cases out with
  | ret v =>
    obtain ⟨v', k4, k5⟩ := k3
    refine ⟨ρ', w', k1, v', k4, .head hent ?_⟩
    have := fr_finish b aC ops i l kk v'
    rw [ho] at this
    simp only [Option.bind_some] at this
    rw [← this]
    exact k5
  | panic v =>
    obtain ⟨v', k4, k5⟩ := k3
    exact ⟨ρ', w', k1, v', k4, .head hent k5⟩

/-! ### A range over a function -/
/-- The loop's two new blocks. -/
theorem loop_new {ρ : Rho} {M : Mem} {w : World} (hR : Rel ρ M w) {t : List Value} {tC : Array Value} (ht : LRel ρ t tC.toList) (fn : FuncId) (params : Array Tmp) (assign body : Code) :
    ∃ ρ', Ext ρ M w ρ' (M ++ [.defers false, .loop .ready none fn t params assign body M.length]) ((w.alloc (.deferred (some []))).alloc (.loop ⟨.ready, none, fn, tC, params, assign, body, w.heap.size⟩)) ∧
      (∃ p, ρ' M.length = some p ∧ p.block = w.heap.size) ∧ ∃ q, ρ' (M.length + 1) = some q ∧ q.block = w.heap.size + 1 := by
  have h1 : Ext ρ M w (ρ.put M.length ⟨w.heap.size, 0, 0, 0⟩) (M ++ [.defers false]) (w.alloc (.deferred (some []))) :=
    Ext.alloc hR (ob := .deferred (some [])) rfl rfl rfl rfl rfl (by show (w.heap.push _)[w.heap.size]? = _; simp)
  have hp : (ρ.put M.length ⟨w.heap.size, 0, 0, 0⟩) M.length = some ⟨w.heap.size, 0, 0, 0⟩ := Rho.put_same _ _ _
  have hlen : (M ++ [AObj.defers false]).length = M.length + 1 := by simp
  have h2 : Ext (ρ.put M.length ⟨w.heap.size, 0, 0, 0⟩) (M ++ [.defers false]) (w.alloc (.deferred (some []))) ((ρ.put M.length ⟨w.heap.size, 0, 0, 0⟩).put (M ++ [AObj.defers false]).length ⟨w.heap.size + 1, 0, 0, 0⟩)
      ((M ++ [.defers false]) ++ [.loop .ready none fn t params assign body M.length]) ((w.alloc (.deferred (some []))).alloc (.loop ⟨.ready, none, fn, tC, params, assign, body, w.heap.size⟩)) := by
    refine Ext.alloc h1.rel (ob := .loop ⟨.ready, none, fn, tC, params, assign, body, w.heap.size⟩) rfl rfl rfl rfl (by simp) ?_
    refine ⟨tC, w.heap.size, ?_, ht.mono (Rho.le_trans h1.le (h1.rel.put_le _)), ⟨w.heap.size, 0, 0, 0⟩, ?_, rfl⟩
    · show (((w.heap.push _).push _))[w.heap.size + 1]? = _
      rw [Array.getElem?_push, if_pos (by simp)]
    · exact h1.rel.put_le _ _ _ hp
  refine ⟨(ρ.put M.length ⟨w.heap.size, 0, 0, 0⟩).put (M ++ [AObj.defers false]).length ⟨w.heap.size + 1, 0, 0, 0⟩, ?_, ⟨_, h1.rel.put_le _ _ _ hp, rfl⟩, ⟨⟨w.heap.size + 1, 0, 0, 0⟩, ?_, rfl⟩⟩
  · have := h1.trans h2
    simpa using this
  · rw [← hlen]; exact Rho.put_same _ _ _

theorem run_enterLoop {fn : FuncId} {tmps : Array Value} {params : Array Tmp} {assign body : Code} (w : World) :
    (Instr.enterLoop fn tmps params assign body none).run P w = .ok (w.heap.size + 1, [{ target := .collected w.heap.size, args := #[] }]) ((w.alloc (.deferred (some []))).alloc (.loop ⟨.ready, none, fn, tmps, params, assign, body, w.heap.size⟩)) := by
  simp [Instr.enterLoop]

theorem st_rangeFunc {b : Frame} {a : Act} {kk : List Item} {cs : List Frame} {w W : World} {f : Operand} {params : Array Tmp} {assign body : Code} {l : Nat} {mark : List Deferred} {g : FuncId} {argsC : Array Value}
    (hel : (Instr.enterLoop b.fn a.tmps params assign body b.roundOf).run P w = .ok (l, mark) W)
    (hcall : ((do let d ← resolve (Fr b { a with defers := mark ++ a.defers } (.inRangeFunc l :: kk)).eval { callee := .value f, args := #[.const (.func (.yield l) #[] #[])], argTypes := #[] } 0; invoke d.target d.args) : Sem Next).run P W = .ok (.enter g argsC) W) :
    step P (lone (Fr b a (.code (.rangeFunc f params assign body) :: kk)) cs w) = .next (lone (Frame.enter P g argsC .normal) (Fr b { a with defers := mark ++ a.defers } (.inRangeFunc l :: kk) :: cs) W) := by
  refine step_lone_go ?_
  have e1 : stepG P true { frame := Fr b a (.code (.rangeFunc f params assign body) :: kk), callers := cs, status := .running, dying := none } w =
      GStep.after (seen P b.fn ((Instr.enterLoop b.fn a.tmps params assign body b.roundOf).runT P w #[]).2) (match ((Instr.enterLoop b.fn a.tmps params assign body b.roundOf).runT P w #[]).1 with
        | .ok (l, mark) w => stepG.apply P true { Fr b a (.code (.rangeFunc f params assign body) :: kk) with todo := .inRangeFunc l :: kk, defers := mark ++ a.defers } cs none (do let d ← resolve ({ Fr b a (.code (.rangeFunc f params assign body) :: kk) with todo := .inRangeFunc l :: kk, defers := mark ++ a.defers } : Frame).eval { callee := .value f, args := #[.const (.func (.yield l) #[] #[])], argTypes := #[] } 0; invoke d.target d.args) w
        | .halt _ w => .ended (.stuck "range over a function: no such loop" ((Fr b a (.code (.rangeFunc f params assign body) :: kk)).pos P)) w) := by
    simp only [stepG, stepG.exec, Fr]
    rfl
  rw [e1, Sem.runT_eq, hel]
  simp only [GStep.bare_after]
  have e2 := hcall
  simp only [Fr] at e2 ⊢
  unfold stepG.apply
  simp only [if_true, Sem.runT_eq, e2, GStep.bare_after]
  rfl

theorem range_begins {fn : FuncId} {f : Operand} {params : Array Tmp} {assign body : Code} {s : St} {g : FuncId} {first cap : Array Value} (hx : okX f = true) (hf : evA s.t f = .func (.func g) first cap) (hwk : walksIn P g = true)
    (ρ : Rho) (w : World) (aC : Act) (hR : Rel ρ s.M w) (ht : LRel ρ s.t aC.tmps.toList) (b : Frame) (kk : List Item) (cs : List Frame) (hb : b.fn = fn) (hr : b.roundOf = none) :
    ∃ ρ1 argsC, ∃ (p q : Place), ρ1 s.M.length = some p ∧ ρ1 (s.M.length + 1) = some q ∧ Ext ρ s.M w ρ1 (s.M ++ [.defers false, .loop .ready none fn s.t params assign body s.M.length]) ((w.alloc (.deferred (some []))).alloc (.loop ⟨.ready, none, fn, aC.tmps, params, assign, body, w.heap.size⟩)) ∧
      LRel ρ1 (first.toList ++ [.func (.yield (s.M.length + 1)) #[] #[]] ++ cap.toList) argsC.toList ∧
      step P (lone (Fr b aC (.code (.rangeFunc f params assign body) :: kk)) cs w) =
        .next (lone (Frame.enter P g argsC .normal) (Fr b { aC with defers := { target := .collected p.block, args := #[] } :: aC.defers } (.inRangeFunc q.block :: kk) :: cs) ((w.alloc (.deferred (some []))).alloc (.loop ⟨.ready, none, fn, aC.tmps, params, assign, body, w.heap.size⟩))) := by
  obtain ⟨ρ1, h1, ⟨p, hp, hpb⟩, ⟨q, hq, hqb⟩⟩ := loop_new hR ht fn params assign body
  have hv := evA_rel ht hx
  rw [hf] at hv
  obtain ⟨first', cap', he, hf1, hf2⟩ := hv.fn_inv
  refine ⟨ρ1, first' ++ #[.func (.yield q.block) #[] #[]] ++ cap', p, q, hp, hq, h1, ?_, ?_⟩
  · simp only [Array.toList_append]
    exact ((hf1.mono h1.le).append (.cons (.yield hq) (.nil _))).append (hf2.mono h1.le)
  · have hel := run_enterLoop (P := P) (fn := fn) (tmps := aC.tmps) (params := params) (assign := assign) (body := body) w
    generalize hW : (w.alloc (.deferred (some []))).alloc (.loop ⟨.ready, none, fn, aC.tmps, params, assign, body, w.heap.size⟩) = W at *
    subst hb
    rw [hpb, hqb]
    refine st_rangeFunc (l := w.heap.size + 1) (mark := [{ target := .collected w.heap.size, args := #[] }]) (by rw [hr, hel]) ?_
    have hfr : (Fr b { aC with defers := [{ target := .collected w.heap.size, args := #[] }] ++ aC.defers } (.inRangeFunc (w.heap.size + 1) :: kk)).eval f = .func (.func g) first' cap' := by rw [fr_eval, ← he]; cases f <;> rfl
    have hc : ∀ fr : Frame, fr.eval (.const (.func (.yield (w.heap.size + 1)) #[] #[])) = .func (.yield (w.heap.size + 1)) #[] #[] := fun fr => rfl
    simp only [resolve, hfr, Deferred.ofValue, Sem.run_bind, Sem.run_pure, Result.andThen_ok, invoke, List.map_toArray, List.map_cons, List.map_nil, hc, run_callFunc hwk]

theorem range_ends {b : Frame} {a : Act} {kk : List Item} {cs : List Frame} {w : World} {l : Nat} {r : Loop} (v : Value) (hb : w.heap[l]? = some (.loop r)) (hs : r.state ≠ .busy) :
    Steps P (lone ((Fr b a (.inRangeFunc l :: kk)).finish v) cs w) (lone (Fr b a ((r.pending.map Item.code).toList ++ kk)) cs { w with heap := w.heap.setIfInBounds l (.loop { r with state := .exhausted }) }) := by
  refine .one (step_lone_go ?_)
  have hrun : (Instr.endLoop l).run P w = .ok r.pending { w with heap := w.heap.setIfInBounds l (.loop { r with state := .exhausted }) } := by
    have : (r.state == LoopState.busy) = false := by simp [hs]
    simp only [Instr.endLoop, Instr.getLoop, getObj, setObj, Sem.run_bind, Sem.run, hb, Result.andThen_ok, this, Bool.false_eq_true, if_false, Sem.run_pure]
  simp [Frame.finish, stepG, stepG.exec, Fr, hrun]

theorem s_rangeFn {fn k f params assign body s g first cap M2 st pd fn' t' ps as bd df v0 rc0} (hx : okX f = true) (hf : evA s.t f = .func (.func g) first cap) (hwk : walksIn P g = true)
    (h : SCall P .normal g (first.toList ++ [.func (.yield (s.M.length + 1)) #[] #[]] ++ cap.toList) (s.M ++ [.defers false, .loop .ready none fn s.t params assign body s.M.length]) (.ret v0) M2 rc0)
    (hl : M2[s.M.length + 1]? = some (.loop st pd fn' t' ps as bd df)) (hb : st ≠ .busy) {e : AExit} {s' : St}
    (hj : (pd = none ∧ e = .normal ∧ s' = ⟨s.t, .mark s.M.length :: s.d, M2.set (s.M.length + 1) (.loop .exhausted pd fn' t' ps as bd df), s.rc⟩) ∨
      ∃ j, pd = some j ∧ SCode P fn none k (.code j) ⟨s.t, .mark s.M.length :: s.d, M2.set (s.M.length + 1) (.loop .exhausted pd fn' t' ps as bd df), s.rc⟩ e s') :
    SCode P fn none k (.code (.rangeFunc f params assign body)) s e s' := by
  intro ρ w aC hR ht hd b kk Cs h1 h2 h3 h4
  have hro : b.roundOf = none := by cases hb : b.roundOf with | none => rfl | some l => rw [hb] at h3; exact h3.elim
  obtain ⟨ρ1, argsC, p, q, hp, hq, g1, g2, g3⟩ := range_begins (P := P) (fn := fn) (params := params) (assign := assign) (body := body) hx hf hwk ρ w aC hR ht b kk (Cs s.rc) h1 hro
  let a1 : Act := { aC with defers := { target := .collected p.block, args := #[] } :: aC.defers }
  obtain ⟨ρ2, w2, fr, k1, k2, k3, k4, k5, k6, k7, fn2, v', k8, k9, k10⟩ := h ρ1 _ argsC (fun _ => Fr b a1 (.inRangeFunc q.block :: kk) :: Cs s.rc) g1.rel g2 (fun _ => rfl)
  have hq2 := k1.le _ _ hq
  obtain ⟨tmps3, q3, hb3, ht3, hext3⟩ := loop_upd k1.rel hq2 hl .exhausted pd
  have hall := (g1.trans k1).trans hext3
  have hend := range_ends (P := P) (b := b) (a := a1) (kk := kk) (cs := Cs s.rc) v' hb3 hb
  have hway : Steps P (lone (Fr b aC (.code (.rangeFunc f params assign body) :: kk)) (Cs s.rc) w) (lone (Fr b a1 ((pd.map Item.code).toList ++ kk)) (Cs s.rc) { w2 with heap := w2.heap.setIfInBounds q.block (.loop ⟨.exhausted, pd, fn', tmps3, ps, as, bd, q3⟩) }) :=
    .head g3 (k2.trans (.head (step_leave k7 k4 k5 k3 k8 k9) hend))
  have hds : DsRel ρ2 (.mark s.M.length :: s.d) a1.defers := ⟨⟨p, k1.le _ _ hp, rfl⟩, hd.mono hall.le⟩
  rcases hj with ⟨rfl, rfl, rfl⟩ | ⟨j, rfl, hj⟩
  · exact ⟨ρ2, _, a1, hall, ht.mono hall.le, hds, hway⟩
  · obtain ⟨ρ4, w4, a4, m1, m2, m3, m4⟩ := hj ρ2 _ a1 hext3.rel (ht.mono hall.le) hds b kk Cs h1 h2 (h3.mono hall.le) (h4.mono hall.le)
    exact ⟨ρ4, w4, a4, hall.trans m1, m2, m3, .of_steps hway m4⟩

theorem s_rangeFnP {fn k f params assign body s g first cap M2 v0 rc0} (hx : okX f = true) (hf : evA s.t f = .func (.func g) first cap) (hwk : walksIn P g = true)
    (h : SCall P .normal g (first.toList ++ [.func (.yield (s.M.length + 1)) #[] #[]] ++ cap.toList) (s.M ++ [.defers false, .loop .ready none fn s.t params assign body s.M.length]) (.panic v0) M2 rc0) :
    SCode P fn none k (.code (.rangeFunc f params assign body)) s (.panic v0) ⟨s.t, .mark s.M.length :: s.d, M2, s.rc⟩ := by
  intro ρ w aC hR ht hd b kk Cs h1 h2 h3 h4
  have hro : b.roundOf = none := by cases hb : b.roundOf with | none => rfl | some l => rw [hb] at h3; exact h3.elim
  obtain ⟨ρ1, argsC, p, q, hp, hq, g1, g2, g3⟩ := range_begins (P := P) (fn := fn) (params := params) (assign := assign) (body := body) hx hf hwk ρ w aC hR ht b kk (Cs s.rc) h1 hro
  let a1 : Act := { aC with defers := { target := .collected p.block, args := #[] } :: aC.defers }
  obtain ⟨ρ2, w2, fr, k1, k2, k3, k4, k5, k6, v', k7, k8, fn2, k9⟩ := h ρ1 _ argsC (fun _ => Fr b a1 (.inRangeFunc q.block :: kk) :: Cs s.rc) g1.rel g2 (fun _ => rfl)
  have hall := g1.trans k1
  refine ⟨ρ2, w2, a1, hall, ht.mono hall.le, ⟨⟨p, k1.le _ _ hp, rfl⟩, hd.mono hall.le⟩, .inRangeFunc q.block :: kk, v', k8, ?_⟩
  refine .head g3 (k2.trans (.one ?_))
  rw [step_leaveP k7 k4 k3 k9]
  rfl

/-! ### Deferred calls, recover -/
theorem s_opDefer {fn k ops i s o c f g first cap} (ho : ops[i]? = some o) (hw : wantedA ops s.t o = true) (hk : okOp o.op = true) (hop : o.op = .defer c) (hc : c.callee = .value f) (hf : evA s.t f = .func (.func g) first cap) :
    SOp P fn none k ops i s .normal ({ s with d := .call g (first.toList ++ c.args.toList.map (evA s.t)) cap.toList :: s.d }.put o.dst undef) := by
  intro ρ w aC hR ht hd b kk Cs l h1 h2 h3 h4
  have hro : b.roundOf = none := by cases hb : b.roundOf with | none => rfl | some l => rw [hb] at h3; exact h3.elim
  obtain ⟨callee, cargs, ats⟩ := c
  simp only at hc
  subst hc
  have hok : ∀ x ∈ (Op.defer ⟨.value f, cargs, ats⟩).operands.toList, okX x = true := by rw [hop] at hk; exact List.all_eq_true.1 hk
  have hfv := evA_rel ht (hok f (by simp [Op.operands, Call.operands]))
  rw [hf] at hfv
  obtain ⟨first', cap', he, hf1, hf2⟩ := hfv.fn_inv
  have ha := LRel.map_of (ρ := ρ) (f := evA s.t) (g := aC.eval) cargs.toList (fun x hx => evA_rel ht (hok x (by simp [Op.operands, Call.operands]; exact .inr (by simpa using hx))))
  let d : Deferred := { target := .fn (.func g) cap', args := first' ++ cargs.map aC.eval }
  have hwc : Region.wanted o (yielded ops aC.tmps) = true := by rw [wanted_rel ht, hw]
  have hst := stG_op (P := P) (b := b) (a := aC) (k := kk) (cs := Cs s.rc) (w := w) (rest := l) ho hwc (.inl hro)
  have hex : (execOp aC.eval o).run P w = .ok (.defer d) w := by simp [execOp, hop, resolve, he, Deferred.ofValue, d]
  have hdr : DsRel ρ (.call g (first.toList ++ cargs.toList.map (evA s.t)) cap.toList :: s.d) (d :: aC.defers) := ⟨⟨_, _, rfl, by simp only [Array.toList_append, Array.toList_map]; exact hf1.append ha, hf2⟩, hd⟩
  refine ⟨ρ, w, { aC with defers := d :: aC.defers }.put o.dst undef, Ext.refl hR, by simp only [St.put]; exact put_rel (a := { aC with defers := d :: aC.defers }) ht o.dst (VRel.undef ρ), by rw [put_defers]; exact hdr, .one (step_lone_go ?_)⟩
  rw [hst]
  have := fr_finish b { aC with defers := d :: aC.defers } ops i l kk undef
  rw [ho] at this
  simp only [Option.bind_some] at this
  rw [← this]
  unfold stepG.apply
  simp only [if_true, Sem.runT_eq, hex, GStep.bare_after]
  rfl

theorem s_opRecover {fn ops i s o c v} (ho : ops[i]? = some o) (hw : wantedA ops s.t o = true) (hop : o.op = .call c) (hc : c.callee = .builtin .recover) (hrc : s.rc = false) :
    SOp P fn none (.deferred (some v)) ops i s .normal ({ s with rc := true }.put o.dst v) := by
  intro ρ w aC hR ht hd b kk Cs l h1 h2 h3 h4
  have hro : b.roundOf = none := by cases hb : b.roundOf with | none => rfl | some l => rw [hb] at h3; exact h3.elim
  obtain ⟨cf, rest, v', hv, hcs⟩ := h4
  have hwc : Region.wanted o (yielded ops aC.tmps) = true := by rw [wanted_rel ht, hw]
  have hst := stG_op (P := P) (b := b) (a := aC) (k := kk) (cs := Cs s.rc) (w := w) (rest := l) ho hwc (.inl hro)
  obtain ⟨callee, cargs, ats⟩ := c
  simp only at hc
  subst hc
  have hex : (execOp aC.eval o).run P w = .ok .recover w := by simp [execOp, hop, resolve, invoke, builtin]
  refine ⟨ρ, w, aC.put o.dst v', Ext.refl hR, put_rel ht o.dst hv, by rw [put_defers]; exact hd, .one (step_lone_go ?_)⟩
  rw [hst]
  have := fr_finish b aC ops i l kk v'
  rw [ho] at this
  simp only [Option.bind_some] at this
  rw [← this]
  have hk2 : b.kind = .deferred := h2
  simp [stepG.apply, hex, Fr, hro, tryRecover, hk2, hcs, hrc, St.put]

theorem s_opRecoverN {fn ops i s o c} (ho : ops[i]? = some o) (hw : wantedA ops s.t o = true) (hop : o.op = .call c) (hc : c.callee = .builtin .recover) :
    SOp P fn none (.deferred none) ops i s .normal (s.put o.dst .nilIface) := by
  intro ρ w aC hR ht hd b kk Cs l h1 h2 h3 h4
  have hro : b.roundOf = none := by cases hb : b.roundOf with | none => rfl | some l => rw [hb] at h3; exact h3.elim
  obtain ⟨hcc, cf, rest, hcs, hcm⟩ := h4
  have hwc : Region.wanted o (yielded ops aC.tmps) = true := by rw [wanted_rel ht, hw]
  have hst := stG_op (P := P) (b := b) (a := aC) (k := kk) (cs := Cs s.rc) (w := w) (rest := l) ho hwc (.inl hro)
  obtain ⟨callee, cargs, ats⟩ := c
  simp only at hc
  subst hc
  have hex : (execOp aC.eval o).run P w = .ok .recover w := by simp [execOp, hop, resolve, invoke, builtin]
  refine ⟨ρ, w, aC.put o.dst .nilIface, Ext.refl hR, put_rel ht o.dst .nilIface, by rw [put_defers]; exact hd, .one (step_lone_go ?_)⟩
  rw [hst]
  have := fr_finish b aC ops i l kk .nilIface
  rw [ho] at this
  simp only [Option.bind_some] at this
  rw [← this]
  have hk2 : b.kind = .deferred := h2
  simp [stepG.apply, hex, Fr, hro, tryRecover, hk2, hcc s.rc, hcs, hcm, St.put]

theorem enter_deferred {fr : Frame} {d : Deferred} {ds : List Deferred} {cs : List Frame} {w : World} {f : FuncId} {args' cap' : Array Value} (hfd : fr.defers = d :: ds) (hd : d = { target := .fn (.func f) cap', args := args' }) (hw : walksIn P f = true) (hm : fr.mode ≠ .run) :
    step P (lone fr cs w) = .next (lone (Frame.enter P f (args' ++ cap') .deferred) ({ fr with defers := ds } :: cs) w) := by
  subst hd
  refine step_lone_go ?_
  have hrun : (invoke (.fn (.func f) cap') args').run P w = .ok (.enter f (args' ++ cap')) w := by simp only [invoke]; exact run_callFunc hw _ _
  cases hmode : fr.mode with
  | run => exact absurd hmode hm
  | returning => simp [stepG, hmode, unwind, hfd, callDeferred, hrun]
  | panicking ch => simp [stepG, hmode, unwind, hfd, callDeferred, hrun]

/-- A deferred call has returned. -/
theorem step_leaveD {f : FuncId} {fr c : Frame} {cs : List Frame} {w : World} {v : Value} (hm : fr.mode = .returning) (hd : fr.defers = []) (hk : fr.kind = .deferred) (hfn : fr.fn = f) {fn : Func} (hf : P.funcs[f]? = some fn) (hr : (results fn fr.tmps).run P w = .ok v w)
    (m : FrameMode) (hc : (c.mode = .returning ∧ m = .returning) ∨ (∃ x, c.mode = .panicking [{ v := x, recovered := true, goexit := false }] ∧ m = .returning) ∨ (∃ x, c.mode = .panicking [{ v := x, recovered := false, goexit := false }] ∧ m = c.mode)) :
    step P (lone fr (c :: cs) w) = .next (lone { c with mode := m } cs w) := by
  subst hfn
  refine step_lone_go ?_
  rcases hc with ⟨h1, rfl⟩ | ⟨x, h1, rfl⟩ | ⟨x, h1, h2⟩
  · have : { c with mode := .returning } = c := by rw [← h1]
    simp [stepG, unwind, doReturn, hm, hd, hk, hf, hr, h1, this]
  · simp [stepG, unwind, doReturn, hm, hd, hk, hf, hr, h1]
  · have : { c with mode := m } = c := by rw [h2]
    simp [stepG, unwind, doReturn, hm, hd, hk, hf, hr, h1, this]

theorem s_unwCall {f k s ds g args cap v M' rc o M2 rc2} (hd : s.d = .call g args cap :: ds) (hw : walksIn P g = true) (h : SCall P (.deferred none) g (args ++ cap) s.M (.ret v) M' rc) (h' : SUnwind P f k .returning { s with d := ds, M := M' } o M2 rc2) : SUnwind P f k .returning s o M2 rc2 := by
  intro ρ w fr Cs hR ht hds h1 h2 h3 h4 h5 h6
  rw [hd] at hds
  obtain ⟨d, ds', hfd, ⟨args', cap', hde, ha, hc⟩, hds'⟩ := hds.cons_inv
  have hmd : fr.mode = .returning := h4
  have hst := enter_deferred (P := P) (cs := Cs s.rc) (w := w) hfd hde hw (by rw [hmd]; simp)
  obtain ⟨ρ1, w1, fr1, k1, k2, k3, k4, k5, k6, k7, fn2, v', k8, k9, k10⟩ := h ρ w (args' ++ cap') (fun _ => { fr with defers := ds' } :: Cs s.rc) hR (by simp only [Array.toList_append]; exact ha.append hc) ⟨fun _ => rfl, _, _, rfl, hmd⟩
  have hlv := step_leaveD (P := P) (c := { fr with defers := ds' }) (cs := Cs s.rc) k7 k4 k5 k3 k8 k9 .returning (.inl ⟨hmd, rfl⟩)
  obtain ⟨ρ2, w2, fr2, m1, m2, m3⟩ := h' ρ1 w1 { fr with defers := ds', mode := .returning } Cs k1.rel (ht.mono k1.le) (hds'.mono k1.le) h1 h2 h3 rfl (h5.mono k1.le) h6
  exact ⟨ρ2, w2, fr2, k1.trans m1, .head hst (k2.trans (.head hlv m2)), m3⟩

theorem s_unwCallP {f k s ds g args cap v pv M' rc o M2 rc2} (hd : s.d = .call g args cap :: ds) (hw : walksIn P g = true) (h : SCall P (.deferred (some pv)) g (args ++ cap) s.M (.ret v) M' rc)
    (h' : SUnwind P f k (if rc then .returning else .panicking pv) { s with d := ds, M := M' } o M2 rc2) : SUnwind P f k (.panicking pv) s o M2 rc2 := by
  intro ρ w fr Cs hR ht hds h1 h2 h3 h4 h5 h6
  rw [hd] at hds
  obtain ⟨d, ds', hfd, ⟨args', cap', hde, ha, hc⟩, hds'⟩ := hds.cons_inv
  obtain ⟨pv', hpv, hmd⟩ := h4
  have hst := enter_deferred (P := P) (cs := Cs s.rc) (w := w) hfd hde hw (by rw [hmd]; simp)
  have hfr : ({ fr with defers := ds' } : Frame) = { fr with defers := ds', mode := .panicking [{ v := pv', recovered := false, goexit := false }] } := by rw [← hmd]
  obtain ⟨ρ1, w1, fr1, k1, k2, k3, k4, k5, k6, k7, fn2, v', k8, k9, k10⟩ := h ρ w (args' ++ cap') (fun b => { fr with defers := ds', mode := .panicking [{ v := pv', recovered := b, goexit := false }] } :: Cs s.rc) hR (by simp only [Array.toList_append]; exact ha.append hc) ⟨{ fr with defers := ds' }, Cs s.rc, pv', hpv, fun b => rfl⟩
  rw [hfr] at hst
  cases rc with
  | true =>
    have hlv := step_leaveD (P := P) (c := { fr with defers := ds', mode := .panicking [{ v := pv', recovered := true, goexit := false }] }) (cs := Cs s.rc) k7 k4 k5 k3 k8 k9 .returning (.inr (.inl ⟨pv', rfl, rfl⟩))
    obtain ⟨ρ2, w2, fr2, m1, m2, m3⟩ := h' ρ1 w1 { fr with defers := ds', mode := .returning } Cs k1.rel (ht.mono k1.le) (hds'.mono k1.le) h1 h2 h3 rfl (h5.mono k1.le) h6
    exact ⟨ρ2, w2, fr2, k1.trans m1, .head hst (k2.trans (.head hlv m2)), m3⟩
  | false =>
    have hlv := step_leaveD (P := P) (c := { fr with defers := ds', mode := .panicking [{ v := pv', recovered := false, goexit := false }] }) (cs := Cs s.rc) k7 k4 k5 k3 k8 k9 (.panicking [{ v := pv', recovered := false, goexit := false }]) (.inr (.inr ⟨pv', rfl, rfl⟩))
    obtain ⟨ρ2, w2, fr2, m1, m2, m3⟩ := h' ρ1 w1 { fr with defers := ds', mode := .panicking [{ v := pv', recovered := false, goexit := false }] } Cs k1.rel (ht.mono k1.le) (hds'.mono k1.le) h1 h2 h3 ⟨pv', hpv.mono k1.le, rfl⟩ (h5.mono k1.le) h6
    exact ⟨ρ2, w2, fr2, k1.trans m1, .head hst (k2.trans (.head hlv m2)), m3⟩

end Go.Proofs.YtabkcbaknjenmaaAM

/-
  AN ABSTRACT MACHINE OVER THE MODEL, part 12: a region that draws its order, run in the text's order: the trace.
-/
set_option linter.unusedVariables false
set_option linter.unusedSimpArgs false
namespace Go.Proofs.YtabkcbaknjenmaaAM
open Go
variable {P : Program}

/-! ### The trace in the text's order -/
structure Trace (P : Program) (ops : Array Oper) (tr : Nat → St) (vs : Nat → Value) : Prop where
  step : ∀ i o, ops[i]? = some o → tr (i + 1) = { tr i with M := (tr (i + 1)).M }.put o.dst (vs i)
  off : ∀ i o, ops[i]? = some o → wantedA ops (tr i).t o = false → vs i = undef ∧ (tr (i + 1)).M = (tr i).M
  light : ∀ i o, ops[i]? = some o → wantedA ops (tr i).t o = true → heavyOp o.op = false → okOp o.op = true ∧ opEval P (tr i).t o.op (tr i).M = some (vs i, (tr (i + 1)).M)
  heavy : ∀ i o, ops[i]? = some o → wantedA ops (tr i).t o = true → heavyOp o.op = true → SVal P ops i (tr i).t (tr i).M (.ret (vs i)) (tr (i + 1)).M
  calm : ∀ q ∈ conf ops, ∀ o, ops[q.2]? = some o → wantedA ops (tr q.2).t o = true → ∀ x ∈ touchA o.op (tr q.2).t (tr q.2).M.length, x < (tr q.1).M.length → (tr (q.1 + 1)).M[x]? = (tr q.1).M[x]?

/-! ### Cutting a placement down -/
open Classical in
noncomputable def Rho.cut (ρ : Rho) (D : Nat → Prop) : Rho := fun x => if D x then ρ x else none
theorem Rho.cut_le (ρ : Rho) (D : Nat → Prop) : Rho.le (ρ.cut D) ρ := fun x p h => by
  unfold Rho.cut at h
  split at h
  · exact h
  · simp at h
theorem Rho.cut_in {ρ : Rho} {D : Nat → Prop} {x : Nat} {p : Place} (h : ρ x = some p) (hd : D x) : ρ.cut D x = some p := by simp [Rho.cut, hd, h]
theorem Rho.cut_out {ρ : Rho} {D : Nat → Prop} {x : Nat} {p : Place} (h : ρ.cut D x = some p) : D x ∧ ρ x = some p := by
  unfold Rho.cut at h
  split at h
  · exact ⟨‹_›, h⟩
  · simp at h
theorem VRel.cut {ρ ρ2 : Rho} {D : Nat → Prop} (hD : ∀ x p, ρ2 x = some p → D x) {v v' : Value} (h : VRel ρ v v') : ∀ {v2 : Value}, VRel ρ2 v v2 → VRel (ρ.cut D) v v' := by
  induction h with
  | bool b => exact fun _ => .bool b
  | int k n => exact fun _ => .int k n
  | string s => exact fun _ => .string s
  | ptrN => exact fun _ => .ptrN
  | ptr e => intro v2 h2; cases h2 with | ptr e2 => exact .ptr (Rho.cut_in e (hD _ _ e2))
  | sliN => exact fun _ => .sliN
  | sli e hs => intro v2 h2; cases h2 with | sli e2 _ => exact .sli (Rho.cut_in e (hD _ _ e2)) hs
  | mapN => exact fun _ => .mapN
  | map e => intro v2 h2; cases h2 with | map e2 => exact .map (Rho.cut_in e (hD _ _ e2))
  | fn f a a' b b' ha hb _ _ iA iB =>
    intro v2 h2
    cases h2 with
    | fn _ _ a2 _ b2 ha2 hb2 hA2 hB2 =>
      refine .fn f a a' b b' ha hb (fun i x x' hx hx' => ?_) (fun i x x' hx hx' => ?_)
      · have hi : i < a2.size := by have := (Array.getElem?_eq_some_iff.1 hx).1; omega
        exact iA i x x' hx hx' (hA2 i x a2[i] hx (by simp [hi]))
      · have hi : i < b2.size := by have := (Array.getElem?_eq_some_iff.1 hx).1; omega
        exact iB i x x' hx hx' (hB2 i x b2[i] hx (by simp [hi]))
  | yield e => intro v2 h2; cases h2 with | yield e2 => exact .yield (Rho.cut_in e (hD _ _ e2))
  | nilFunc => exact fun _ => .nilFunc
  | nilIface => exact fun _ => .nilIface
  | iface t _ ih => intro v2 h2; cases h2 with | iface _ h3 => exact .iface t (ih h3)
  | agg a a' ha _ iA =>
    intro v2 h2
    cases h2 with
    | agg _ a2 ha2 hA2 =>
      refine .agg a a' ha (fun i x x' hx hx' => ?_)
      have hi : i < a2.size := by have := (Array.getElem?_eq_some_iff.1 hx).1; omega
      exact iA i x x' hx hx' (hA2 i x a2[i] hx (by simp [hi]))
  | tuple a a' ha _ iA =>
    intro v2 h2
    cases h2 with
    | tuple _ a2 ha2 hA2 =>
      refine .tuple a a' ha (fun i x x' hx hx' => ?_)
      have hi : i < a2.size := by have := (Array.getElem?_eq_some_iff.1 hx).1; omega
      exact iA i x x' hx hx' (hA2 i x a2[i] hx (by simp [hi]))
theorem LRel.cut {ρ ρ2 : Rho} {D : Nat → Prop} (hD : ∀ x p, ρ2 x = some p → D x) {l l' l2 : List Value} (h : LRel ρ l l') (h2 : LRel ρ2 l l2) : LRel (ρ.cut D) l l' :=
  ⟨h.len, fun i v v' a b => by obtain ⟨v2, _, r⟩ := h2.get a; exact (h.at_ i v v' a b).cut hD r⟩
theorem ORel.cut {ρ ρ2 : Rho} {D : Nat → Prop} (hD : ∀ x p, ρ2 x = some p → D x) {o : AObj} {p p2 : Place} {w w2 : World} (h : ORel ρ o p w) (h2 : ORel ρ2 o p2 w2) : ORel (ρ.cut D) o p w := by
  cases o with
  | cells vs u m =>
    rcases h with h | ⟨cs, el, fr, a, b, c, d, e, f⟩
    · exact .inl h
    · rcases h2 with h2 | ⟨_, _, _, _, _, _, _, e2, _⟩
      · exact .inl h2
      · exact .inr ⟨cs, el, fr, a, b, c, d, fun i v hv => by obtain ⟨v', x, y⟩ := e i v hv; obtain ⟨v2, _, y2⟩ := e2 i v hv; exact ⟨v', x, y.cut hD y2⟩, f⟩
  | map es =>
    obtain ⟨es', c, a, b, d⟩ := h
    obtain ⟨es2, c2, a2, b2, d2⟩ := h2
    refine ⟨es', c, a, b, fun i e e' x y => ?_⟩
    obtain ⟨q, r, t⟩ := d i e e' x y
    have hi : i < es2.size := by have := (List.getElem?_eq_some_iff.1 x).1; omega
    exact ⟨q, r, t.cut hD (d2 i e es2[i] x (by simp [hi])).2.2⟩
  | loop st pending fn tmps params assign body df =>
    obtain ⟨tmps', q, a, b, pd, c, d⟩ := h
    obtain ⟨_, _, _, b2, pd2, c2, _⟩ := h2
    exact ⟨tmps', q, a, b.cut hD b2, pd, Rho.cut_in c (hD _ _ c2), d⟩
  | defers t => exact h
  | siter s pos => exact h


section region
variable {ops : Array Oper} {tr : Nat → St} {vs : Nat → Value} (hT : Trace P ops tr vs)
include hT
theorem Trace.on {i : Nat} {o : Oper} (ho : ops[i]? = some o) (hw : wantedA ops (tr i).t o = true) : SVal P ops i (tr i).t (tr i).M (.ret (vs i)) (tr (i + 1)).M := by
  cases hh : heavyOp o.op with
  | true => exact hT.heavy i o ho hw hh
  | false =>
    obtain ⟨a, b⟩ := hT.light i o ho hw hh
    exact s_valLight ho a b

variable {ρ0 : Rho} {w0 : World} {a0 : Act} (hR0 : Rel ρ0 (tr 0).M w0) (ht0 : LRel ρ0 (tr 0).t a0.tmps.toList)
theorem text_step {i : Nat} {o : Oper} (ho : ops[i]? = some o) {ρ : Rho} {w : World} {a : Act} (hR : Rel ρ (tr i).M w) (ht : LRel ρ (tr i).t a.tmps.toList) :
    ∃ (ρ' : Rho) (w' : World) (a' : Act), Ext ρ (tr i).M w ρ' (tr (i + 1)).M w' ∧ LRel ρ' (tr (i + 1)).t a'.tmps.toList := by
  have hst := hT.step i o ho
  cases hw : wantedA ops (tr i).t o with
  | true =>
    obtain ⟨ρ', w', h1, v', h2, _⟩ := hT.on ho hw o ho ρ w a hR (fun x _ hx => evA_rel ht hx) (by rw [wanted_rel ht, hw]) default [] [] []
    refine ⟨ρ', w', a.put o.dst v', h1, ?_⟩
    rw [hst]
    exact put_rel (ht.mono h1.le) o.dst h2
  | false =>
    obtain ⟨h1, h2⟩ := hT.off i o ho hw
    refine ⟨ρ, w, a.put o.dst undef, by rw [h2]; exact Ext.refl hR, ?_⟩
    rw [hst, h1]
    exact put_rel ht o.dst (VRel.undef ρ)
include hR0 ht0
theorem text_run : ∀ i, i ≤ ops.size → ∃ (ρ : Rho) (w : World) (a : Act), Ext ρ0 (tr 0).M w0 ρ (tr i).M w ∧ LRel ρ (tr i).t a.tmps.toList
  | 0, _ => ⟨ρ0, w0, a0, Ext.refl hR0, ht0⟩
  | i + 1, hi => by
    obtain ⟨ρ, w, a, h1, h2⟩ := text_run i (by omega)
    obtain ⟨ρ', w', a', h3, h4⟩ := text_step hT (Array.getElem?_eq_getElem (show i < ops.size by omega)) h1.rel h2
    exact ⟨ρ', w', a', h1.trans h3, h4⟩
theorem len_step {i : Nat} (hi : i < ops.size) : (tr i).M.length ≤ (tr (i + 1)).M.length := by
  obtain ⟨ρ, w, a, h1, h2⟩ := text_run hT hR0 ht0 i (by omega)
  obtain ⟨ρ', w', a', h3, h4⟩ := text_step hT (Array.getElem?_eq_getElem hi) h1.rel h2
  exact h3.len
theorem len_mono {i k : Nat} (h : i ≤ k) (hk : k ≤ ops.size) : (tr i).M.length ≤ (tr k).M.length := by
  induction k with
  | zero => obtain rfl : i = 0 := by omega
            exact Nat.le_refl _
  | succ k ih =>
    rcases Nat.lt_or_ge k i with h1 | h1
    · obtain rfl : i = k + 1 := by omega
      exact Nat.le_refl _
    · exact Nat.le_trans (ih h1 (by omega)) (len_step hT hR0 ht0 (by omega))
omit hR0 ht0 in
/-- What is not heavy leaves what is there. -/
theorem quiet_step {i : Nat} {o : Oper} (ho : ops[i]? = some o) (hh : heavyOp o.op = false) : (tr (i + 1)).M = (tr i).M ∨ (wantedA ops (tr i).t o = true ∧ makeOp o.op = true ∧ ∃ vs' u, (tr (i + 1)).M = (tr i).M ++ [.cells vs' u .live]) := by
  cases hw : wantedA ops (tr i).t o with
  | false => exact .inl (hT.off i o ho hw).2
  | true =>
    obtain ⟨a, b⟩ := hT.light i o ho hw hh
    simp only [heavyOp, Bool.not_eq_false', Bool.or_eq_true] at hh
    rcases hh with hl | hm
    · exact .inl (light_same P hl b).1
    · obtain ⟨vs', u, mk, h1, _⟩ := make_same P hm b
      exact .inr ⟨rfl, hm, vs', u, h1⟩
/-- What no heavy one touches stays. -/
theorem quiet_run {i k x : Nat} (h : i ≤ k) (hk : k ≤ ops.size) (hq : ∀ m, i ≤ m → m < k → HvAt ops m → x < (tr m).M.length → (tr (m + 1)).M[x]? = (tr m).M[x]?) (hx : x < (tr i).M.length) : (tr k).M[x]? = (tr i).M[x]? := by
  induction k with
  | zero => obtain rfl : i = 0 := by omega
            rfl
  | succ k ih =>
    rcases Nat.lt_or_ge k i with h1 | h1
    · obtain rfl : i = k + 1 := by omega
      rfl
    · have h2 := ih h1 (by omega) (fun m a b => hq m a (by omega))
      have hxk : x < (tr k).M.length := Nat.lt_of_lt_of_le hx (len_mono hT hR0 ht0 h1 (by omega))
      rw [← h2]
      have ho := Array.getElem?_eq_getElem (show k < ops.size by omega)
      cases hh : heavyOp ops[k].op with
      | true => exact hq k h1 (by omega) ⟨_, ho, hh⟩ hxk
      | false =>
        rcases quiet_step hT ho hh with e | ⟨_, _, vs', u, e⟩
        · rw [e]
        · rw [e, List.getElem?_append_left hxk]
end region

end Go.Proofs.YtabkcbaknjenmaaAM

/-
  AN ABSTRACT MACHINE OVER THE MODEL, part 13: a part of the memory stepped on is the whole stepped on.
-/
set_option linter.unusedVariables false
set_option linter.unusedSimpArgs false
namespace Go.Proofs.YtabkcbaknjenmaaAM
open Go

def Rho.join (ρ1 ρ : Rho) : Rho := fun x => match ρ1 x with | some p => some p | none => ρ x
theorem Rho.join_some {ρ1 ρ : Rho} {x : Nat} {p : Place} (h : ρ1 x = some p) : ρ1.join ρ x = some p := by simp [Rho.join, h]
theorem Rho.join_none {ρ1 ρ : Rho} {x : Nat} (h : ρ1 x = none) : ρ1.join ρ x = ρ x := by simp [Rho.join, h]

structure Wide (ρ : Rho) (Mc : Mem) (w : World) (ρ2 : Rho) (Mc' : Mem) (w1 : World) : Prop where
  rel : Rel ρ2 Mc' w1
  le : Rho.le ρ ρ2
  kept : ∀ k, k < w.heap.size → ¬ Wb ρ Mc k → w1.heap[k]? = w.heap[k]?
  wb : ∀ k, Wb ρ2 Mc' k → k < w.heap.size → Wb ρ Mc k
  os : w1.os = w.os
  tape : w1.tape = w.tape
  output : w1.output = w.output
  size : w.heap.size ≤ w1.heap.size
  frz : ∀ k : Nat, frzO w1.heap[k]? = frzO w.heap[k]?

theorem Ext.widen {ρ : Rho} {Mc M M1 Mc' : Mem} {w w1 : World} {ρ1 : Rho} (hR : Rel ρ Mc w)
    (hM : ∀ x p, ρ x = some p → x < M.length → Mc[x]? = M[x]?) (hal : ∀ x p o, ρ x = some p → M.length ≤ x → Mc[x]? = some o → o.alive = true)
    (h : Ext (ρ.cut (· < M.length)) M w ρ1 M1 w1) (hlo : ∀ x p, ρ1 x = some p → Mc'[x]? = M1[x]?) (hhi : ∀ x p, ρ x = some p → M.length ≤ x → ρ1 x = none ∧ Mc'[x]? = Mc[x]?) :
    Rho.le ρ1 (ρ1.join ρ) ∧ Wide ρ Mc w (ρ1.join ρ) Mc' w1 := by
  have le1 : Rho.le ρ1 (ρ1.join ρ) := fun x p e => Rho.join_some e
  have le : Rho.le ρ (ρ1.join ρ) := by
    intro x p e
    by_cases hx : x < M.length
    · exact le1 _ _ (h.le _ _ (Rho.cut_in e hx))
    · rw [Rho.join_none (hhi x p e (by omega)).1]; exact e
  have wsz := h.size
  -- what may be written in the part may be written in the whole
  have wbU : ∀ k, Wb (ρ.cut (· < M.length)) M k → Wb ρ Mc k := by
    rintro k ⟨x, p, o, e, ho, hw, hb⟩
    obtain ⟨hx, e'⟩ := Rho.cut_out e
    exact ⟨x, p, o, e', by rw [hM x p e' hx]; exact ho, hw, hb⟩
  -- places of the joined one
  have cases_ : ∀ x p, ρ1.join ρ x = some p → (ρ1 x = some p) ∨ (ρ1 x = none ∧ ρ x = some p ∧ M.length ≤ x ∧ Mc'[x]? = Mc[x]?) := by
    intro x p e
    cases h1 : ρ1 x with
    | some q => rw [Rho.join_some h1] at e; exact .inl e
    | none =>
      rw [Rho.join_none h1] at e
      by_cases hx : x < M.length
      · have := h.le _ _ (Rho.cut_in e hx)
        rw [h1] at this; simp at this
      · exact .inr ⟨rfl, e, by omega, (hhi x p e (by omega)).2⟩
  -- a block of the rest lies apart from what may be written in the part
  have apart : ∀ y q o, ρ y = some q → M.length ≤ y → Mc[y]? = some o → ∀ k, Wb ρ1 M1 k → q.block ≠ k := by
    intro y q o e hy ho k hk
    have hq := hR.blk y q e
    by_cases hks : k < w.heap.size
    · obtain ⟨x, p, o', e', ho', hw', hb'⟩ := h.wb k hk hks
      obtain ⟨hx, e''⟩ := Rho.cut_out e'
      have := hR.sep x y p q o' o e'' e (by omega) (by rw [hM x p e'' hx]; exact ho') ho hw' (hal y q o e hy ho)
      rw [hb'] at this
      exact fun hh => this hh.symm
    · omega
  have heapAt : ∀ y q o, ρ y = some q → M.length ≤ y → Mc[y]? = some o → w1.heap[q.block]? = w.heap[q.block]? := by
    intro y q o e hy ho
    refine h.kept _ (hR.blk y q e) ?_
    rintro ⟨x, p, o', e', ho', hw', hb'⟩
    obtain ⟨hx, e''⟩ := Rho.cut_out e'
    exact hR.sep x y p q o' o e'' e (by omega) (by rw [hM x p e'' hx]; exact ho') ho hw' (hal y q o e hy ho) hb'
  refine ⟨le1, ⟨⟨?_, ?_, ?_⟩, le, ?_, ?_, h.os, h.tape, h.output, h.size, h.frz⟩⟩
  · intro x p e
    rcases cases_ x p e with h1 | ⟨h1, h2, h3, h4⟩
    · obtain ⟨o, ho, hr⟩ := h.rel.obj x p h1
      exact ⟨o, by rw [hlo x p h1]; exact ho, hr.mono le1⟩
    · obtain ⟨o, ho, hr⟩ := hR.obj x p h2
      exact ⟨o, by rw [h4]; exact ho, (hr.mono le).of_block (heapAt x p o h2 h3 ho)⟩
  · intro x p e
    rcases cases_ x p e with h1 | ⟨h1, h2, h3, h4⟩
    · exact h.rel.blk x p h1
    · have := hR.blk x p h2; omega
  · intro x y p q o o' ex ey hxy hox hoy hw ha
    rcases cases_ x p ex with h1 | ⟨h1, h2, h3, h4⟩ <;> rcases cases_ y q ey with k1 | ⟨k1, k2, k3, k4⟩
    · exact h.rel.sep x y p q o o' h1 k1 hxy (by rw [← hlo x p h1]; exact hox) (by rw [← hlo y q k1]; exact hoy) hw ha
    · have := apart y q o' k2 k3 (by rw [← k4]; exact hoy) p.block ⟨x, p, o, h1, by rw [← hlo x p h1]; exact hox, hw, rfl⟩
      exact fun hh => this hh.symm
    · -- x of the rest, y of the part
      have hox' : Mc[x]? = some o := by rw [← h4]; exact hox
      have hoy' : M1[y]? = some o' := by rw [← hlo y q k1]; exact hoy
      rcases h.dom y q k1 with ⟨q2, hq2⟩ | ⟨hy1, hy2⟩
      · obtain ⟨o2, ho2, ha2, _⟩ := h.alive y o' ⟨q2, hq2⟩ hoy' ha
        have := h.le _ _ hq2
        rw [k1] at this; injection this with this; subst this
        obtain ⟨hy, e'⟩ := Rho.cut_out hq2
        exact hR.sep x y p q o o2 h2 e' hxy hox' (by rw [hM y q e' hy]; exact ho2) hw ha2
      · have hwy := h.neww y o' hy1 hoy' ha
        exact apart x p o h2 h3 hox' q.block ⟨y, q, o', k1, hoy', hwy, rfl⟩
    · exact hR.sep x y p q o o' h2 k2 hxy (by rw [← h4]; exact hox) (by rw [← k4]; exact hoy) hw ha
  · intro k hk hn
    exact h.kept k hk (fun hh => hn (wbU k hh))
  · rintro k ⟨x, p, o, e, ho, hw, hb⟩ hk
    rcases cases_ x p e with h1 | ⟨h1, h2, h3, h4⟩
    · exact wbU k (h.wb k ⟨x, p, o, h1, by rw [← hlo x p h1]; exact ho, hw, hb⟩ hk)
    · exact ⟨x, p, o, h2, by rw [← h4]; exact ho, hw, hb⟩

/-- All of it stepped on. -/
theorem Ext.wide {ρ : Rho} {M M' : Mem} {w w' : World} {ρ' : Rho} (h : Ext ρ M w ρ' M' w') : Wide ρ M w ρ' M' w' :=
  ⟨h.rel, h.le, h.kept, h.wb, h.os, h.tape, h.output, h.size, h.frz⟩
theorem Wide.trans {ρ ρ1 ρ2 : Rho} {M M1 M2 : Mem} {w w1 w2 : World} (h : Wide ρ M w ρ1 M1 w1) (k : Wide ρ1 M1 w1 ρ2 M2 w2) : Wide ρ M w ρ2 M2 w2 where
  rel := k.rel
  le := Rho.le_trans h.le k.le
  kept := fun i hi hn => by rw [k.kept i (Nat.lt_of_lt_of_le hi h.size) (fun hw => hn (h.wb i hw hi)), h.kept i hi hn]
  wb := fun i hw hi => h.wb i (k.wb i hw (Nat.lt_of_lt_of_le hi h.size)) hi
  os := k.os.trans h.os
  tape := k.tape.trans h.tape
  output := k.output.trans h.output
  size := Nat.le_trans h.size k.size
  frz := fun i => (k.frz i).trans (h.frz i)

/-- A new object by another name. -/
theorem Ext.rename {ρ ρ1 ρt : Rho} {Mc : Mem} {w w1 wt : World} {vs : List Value} {u n : Nat} {pt : Place} (hR : Rel ρ Mc w) (h : Ext ρ Mc w ρ1 (Mc ++ [.cells vs u .live]) w1) (hn : ρ n = none) (hnl : n < Mc.length)
    (ht : ORel ρt (.cells vs u .live) pt wt) (htd : ∀ x p, ρt x = some p → x < Mc.length) :
    ∃ q, ρ1 Mc.length = some q ∧ Wide ρ Mc w (ρ.put n q) (Mc.set n (.cells vs u .live)) w1 := by
  obtain ⟨q, hq⟩ := h.new Mc.length (Nat.le_refl _) (by simp)
  refine ⟨q, hq, ?_⟩
  have only : ∀ x p, ρ1 x = some p → x ≠ Mc.length → ρ x = some p := by
    intro x p e hx
    rcases h.dom x p e with ⟨q', e'⟩ | ⟨a, b⟩
    · have := h.le _ _ e'
      rw [e] at this; injection this with this; subst this; exact e'
    · simp at b; omega
  have hout : ρ Mc.length = none := by
    cases e : ρ Mc.length with
    | none => rfl
    | some p => obtain ⟨o, ho, _⟩ := hR.obj _ _ e; simp at ho
  have le : Rho.le ρ (ρ.put n q) := by
    intro x p e
    by_cases hx : x = n
    · subst hx; rw [hn] at e; simp at e
    · rw [Rho.put_ne _ _ hx]; exact e
  have back : ∀ x p, (ρ.put n q) x = some p → (x = n ∧ p = q) ∨ (x ≠ n ∧ ρ x = some p ∧ ρ1 x = some p ∧ x < Mc.length) := by
    intro x p e
    by_cases hx : x = n
    · subst hx; rw [Rho.put_same] at e; injection e with e; exact .inl ⟨rfl, e.symm⟩
    · rw [Rho.put_ne _ _ hx] at e
      obtain ⟨o, ho, _⟩ := hR.obj _ _ e
      exact .inr ⟨hx, e, h.le _ _ e, (List.getElem?_eq_some_iff.1 ho).1⟩
  have setn : (Mc.set n (.cells vs u .live))[n]? = some (.cells vs u .live) := by rw [List.getElem?_set_self hnl]
  have setx : ∀ x, x ≠ n → (Mc.set n (.cells vs u .live))[x]? = Mc[x]? := fun x hx => List.getElem?_set_ne (Ne.symm hx)
  have appn : (Mc ++ [AObj.cells vs u .live])[Mc.length]? = some (.cells vs u .live) := by simp
  have appx : ∀ x, x < Mc.length → (Mc ++ [AObj.cells vs u .live])[x]? = Mc[x]? := fun x hx => List.getElem?_append_left hx
  refine ⟨⟨?_, ?_, ?_⟩, le, h.kept, ?_, h.os, h.tape, h.output, h.size, h.frz⟩
  · intro x p e
    rcases back x p e with ⟨rfl, rfl⟩ | ⟨hx, e0, e1, hl⟩
    · obtain ⟨o, ho, hr⟩ := h.rel.obj _ _ hq
      rw [appn] at ho; injection ho with ho; subst ho
      refine ⟨_, setn, ?_⟩
      refine (ORel.cut (D := fun x => x < Mc.length) htd hr ht).mono ?_
      intro x' p' e'
      obtain ⟨a, b⟩ := Rho.cut_out e'
      exact le _ _ (only x' p' b (by omega))
    · obtain ⟨o, ho, hr⟩ := h.rel.obj _ _ e1
      rw [appx x hl] at ho
      obtain ⟨o0, ho0, hr0⟩ := hR.obj _ _ e0
      refine ⟨o, by rw [setx x hx]; exact ho, ?_⟩
      rw [ho] at ho0; injection ho0 with ho0; subst ho0
      refine (ORel.cut (D := fun x => x < Mc.length) (ρ2 := ρ) (fun x p e => ?_) hr hr0).mono ?_
      · obtain ⟨o, ho, _⟩ := hR.obj _ _ e
        exact (List.getElem?_eq_some_iff.1 ho).1
      · intro x' p' e'
        obtain ⟨a, b⟩ := Rho.cut_out e'
        exact le _ _ (only x' p' b (by omega))
  · intro x p e
    rcases back x p e with ⟨rfl, rfl⟩ | ⟨hx, e0, e1, hl⟩
    · exact h.rel.blk _ _ hq
    · exact h.rel.blk _ _ e1
  · intro x y p r o o' ex ey hxy hox hoy hw ha
    rcases back x p ex with ⟨rfl, rfl⟩ | ⟨hx, e0, e1, hl⟩ <;> rcases back y r ey with ⟨rfl, rfl⟩ | ⟨hy, k0, k1, kl⟩
    · exact absurd rfl hxy
    · rw [setn] at hox; rw [setx y hy] at hoy
      exact h.rel.sep Mc.length y p r o o' hq k1 (by omega) (by rw [appn]; exact hox) (by rw [appx y kl]; exact hoy) hw ha
    · rw [setn] at hoy; rw [setx x hx] at hox
      exact h.rel.sep x Mc.length p r o o' e1 hq (by omega) (by rw [appx x hl]; exact hox) (by rw [appn]; exact hoy) hw ha
    · rw [setx x hx] at hox; rw [setx y hy] at hoy
      exact h.rel.sep x y p r o o' e1 k1 hxy (by rw [appx x hl]; exact hox) (by rw [appx y kl]; exact hoy) hw ha
  · rintro k ⟨x, p, o, e, ho, hw, hb⟩ hk
    rcases back x p e with ⟨rfl, rfl⟩ | ⟨hx, e0, e1, hl⟩
    · rw [setn] at ho
      exact h.wb k ⟨Mc.length, p, o, hq, by rw [appn]; exact ho, hw, hb⟩ hk
    · rw [setx x hx] at ho
      exact ⟨x, p, o, e0, ho, hw, hb⟩

end Go.Proofs.YtabkcbaknjenmaaAM

/-
  AN ABSTRACT MACHINE OVER THE MODEL, part 14: a region that draws its order, run in the text's order.
-/
set_option linter.unusedVariables false
set_option linter.unusedSimpArgs false
namespace Go.Proofs.YtabkcbaknjenmaaAM
open Go
variable {P : Program}

theorem Wide.same {ρ : Rho} {M M2 : Mem} {w : World} (hR : Rel ρ M w) (h : ∀ x p, ρ x = some p → M2[x]? = M[x]?) : Wide ρ M w ρ M2 w where
  rel := ⟨fun x p e => by obtain ⟨o, a, b⟩ := hR.obj x p e; exact ⟨o, by rw [h x p e]; exact a, b⟩, hR.blk,
    fun x y p q o o' ex ey hxy a b => hR.sep x y p q o o' ex ey hxy (by rw [← h x p ex]; exact a) (by rw [← h y q ey]; exact b)⟩
  le := Rho.le_refl ρ
  kept := fun _ _ _ => rfl
  wb := fun k hk _ => by obtain ⟨x, p, o, a, b, c⟩ := hk; exact ⟨x, p, o, a, by rw [← h x p a]; exact b, c⟩
  os := rfl
  tape := rfl
  output := rfl
  size := Nat.le_refl _
  frz := fun _ => rfl

theorem next_heavy (ops : Array Oper) : ∀ (d a : Nat), ops.size - a = d → a ≤ ops.size → ∃ b, a ≤ b ∧ b ≤ ops.size ∧ (b < ops.size → HvAt ops b) ∧ ∀ i, a ≤ i → i < b → ¬ HvAt ops i
  | 0, a, h, ha => ⟨a, Nat.le_refl _, ha, fun h' => by omega, fun i h1 h2 => by omega⟩
  | d + 1, a, h, ha => by
    have hlt : a < ops.size := by omega
    cases hh : heavyOp ops[a].op with
    | true => exact ⟨a, Nat.le_refl _, ha, fun _ => ⟨_, Array.getElem?_eq_getElem hlt, hh⟩, fun i h1 h2 => by omega⟩
    | false =>
      obtain ⟨b, b1, b2, b3, b4⟩ := next_heavy ops d (a + 1) (by omega) (by omega)
      refine ⟨b, by omega, b2, b3, fun i h1 h2 hv => ?_⟩
      by_cases hi : i = a
      · subst hi
        obtain ⟨o, ho, hv⟩ := hv
        rw [Array.getElem?_eq_getElem hlt] at ho
        injection ho with ho; subst ho
        rw [hh] at hv; simp at hv
      · exact b4 i (by omega) h2 hv

/-- How things stand when the operations of S have been carried out: τ is the next heavy one. -/
structure Inv (ops : Array Oper) (tr : Nat → St) (ρ0 : Rho) (w0 : World) (a0 : Act) (S : Nat → Bool) (τ : Nat) (ρ : Rho) (Mc : Mem) (w : World) (TS : List Value) (aC : Act) : Prop where
  down : ∀ i j, S j = true → Reach ops i j → S i = true
  bound : ∀ i, S i = true → i < ops.size
  tau : τ ≤ ops.size
  hvy : ∀ i, HvAt ops i → (S i = true ↔ i < τ)
  nxt : τ < ops.size → HvAt ops τ
  mlen : Mc.length = (tr ops.size).M.length
  mlo : ∀ x, x < (tr τ).M.length → Mc[x]? = (tr τ).M[x]?
  mhi : ∀ j, S j = true → τ ≤ j → ∀ x, (tr j).M.length ≤ x → x < (tr (j + 1)).M.length → Mc[x]? = (tr (j + 1)).M[x]?
  dom : ∀ x p, ρ x = some p → (∃ q, ρ0 x = some q) ∨ ∃ j, S j = true ∧ (tr j).M.length ≤ x ∧ x < (tr (j + 1)).M.length
  new : ∀ j, S j = true → ∀ x, (tr j).M.length ≤ x → x < (tr (j + 1)).M.length → ∃ p, ρ x = some p
  wide : Wide ρ0 (tr 0).M w0 ρ Mc w
  tlen : TS.length = (tr 0).t.length
  tval : ∀ d m, m ≤ ops.size → (∀ i o, ops[i]? = some o → o.dst = some d → (S i = true ↔ i < m)) → TS[d]? = (tr m).t[d]?
  trel : LRel ρ TS aC.tmps.toList
  defs : aC.defers = a0.defers

def put1 (S : Nat → Bool) (j : Nat) : Nat → Bool := fun i => if i = j then true else S i
theorem put1_self (S : Nat → Bool) (j : Nat) : put1 S j j = true := by simp [put1]
theorem put1_or {S : Nat → Bool} {j i : Nat} (h : put1 S j i = true) : i = j ∨ S i = true := by
  by_cases hi : i = j
  · exact .inl hi
  · simp [put1, hi] at h; exact .inr h
theorem put1_of {S : Nat → Bool} {j i : Nat} (h : S i = true) : put1 S j i = true := by simp [put1, h]
theorem put1_ne {S : Nat → Bool} {j i : Nat} (h : i ≠ j) : put1 S j i = S i := by simp [put1, h]

theorem putA_length (t : List Value) (d : Option Tmp) (v : Value) : (putA t d v).length = t.length := by cases d <;> simp [putA]
theorem putA_self (t : List Value) (d : Tmp) (v : Value) : (putA t (some d) v)[d]? = if d < t.length then some v else none := by
  simp only [putA, List.getElem?_set]
  simp
theorem putA_other (t : List Value) {d : Option Tmp} {e : Nat} (h : d ≠ some e) (v : Value) : (putA t d v)[e]? = t[e]? := by
  cases d with
  | none => rfl
  | some d =>
    simp only [putA]
    exact List.getElem?_set_ne (fun hh => h (by rw [hh]))

section region
variable {ops : Array Oper} {tr : Nat → St} {vs : Nat → Value} (hS : Slots ops) (hH : heavyOk ops = true) (hT : Trace P ops tr vs)
include hT
theorem tr_t {i : Nat} {o : Oper} (ho : ops[i]? = some o) : (tr (i + 1)).t = putA (tr i).t o.dst (vs i) := by rw [hT.step i o ho]; rfl
theorem tr_d {i : Nat} (hi : i < ops.size) : (tr (i + 1)).d = (tr i).d ∧ (tr (i + 1)).rc = (tr i).rc := by rw [hT.step i _ (Array.getElem?_eq_getElem hi)]; exact ⟨rfl, rfl⟩
theorem tr_tlen : ∀ {i : Nat}, i ≤ ops.size → (tr i).t.length = (tr 0).t.length
  | 0, _ => rfl
  | i + 1, h => by rw [tr_t hT (Array.getElem?_eq_getElem (show i < ops.size by omega)), putA_length, tr_tlen (by omega)]
theorem tr_ds : ∀ {i : Nat}, i ≤ ops.size → (tr i).d = (tr 0).d ∧ (tr i).rc = (tr 0).rc
  | 0, _ => ⟨rfl, rfl⟩
  | i + 1, h => by obtain ⟨a, b⟩ := tr_d hT (i := i) (by omega); obtain ⟨c, d⟩ := tr_ds (i := i) (by omega); exact ⟨a.trans c, b.trans d⟩
theorem tr_stay {a b d : Nat} (h : a ≤ b) (hb : b ≤ ops.size) (hn : ∀ i o, a ≤ i → i < b → ops[i]? = some o → o.dst ≠ some d) : (tr b).t[d]? = (tr a).t[d]? := by
  induction b with
  | zero => obtain rfl : a = 0 := by omega
            rfl
  | succ b ih =>
    rcases Nat.lt_or_ge b a with h1 | h1
    · obtain rfl : a = b + 1 := by omega
      rfl
    · have ho := Array.getElem?_eq_getElem (show b < ops.size by omega)
      rw [tr_t hT ho, putA_other _ (hn b _ h1 (by omega) ho)]
      exact ih h1 (by omega) (fun i o x y => hn i o x (by omega))

variable {ρ0 : Rho} {w0 : World} {a0 : Act} {S : Nat → Bool} {τ : Nat} {ρ : Rho} {Mc : Mem} {w : World} {TS : List Value} {aC : Act} (hI : Inv ops tr ρ0 w0 a0 S τ ρ Mc w TS aC)
  {j : Nat} {o : Oper} (ho : ops[j]? = some o) (hj : S j = false) (hp : ∀ i ∈ preds ops j, S i = true)
include hI hj hp
omit hT hj in
theorem ready_all {i : Nat} (h : Reach ops i j) : S i = true := by
  cases h with
  | one h => exact hp _ h
  | more h h' => exact hI.down _ _ (hp _ h') h
include hS ho
omit hT in
theorem ready_slot {d : Nat} (hd : d ∈ slotsOf ops o) : TS[d]? = (tr j).t[d]? := by
  have hjs := (Array.getElem?_eq_some_iff.1 ho).1
  refine hI.tval d j (by omega) fun i oi hoi hdi => ?_
  rcases Nat.lt_trichotomy i j with h | rfl | h
  · exact ⟨fun _ => h, fun _ => ready_all hI hp (hS.clash i j oi o h hoi ho ⟨d, .inl ⟨hdi, hd⟩⟩)⟩
  · rw [hj]; simp
  · refine ⟨fun hSi => ?_, fun h' => by omega⟩
    have := hI.down j i hSi (hS.clash j i o oi h ho hoi ⟨d, .inr ⟨hdi, hd⟩⟩)
    rw [hj] at this; simp at this
omit hT in
theorem ready_ev {x : Operand} (hx : x ∈ o.op.operands.toList) : evA TS x = evA (tr j).t x := by
  cases x with
  | tmp d =>
    have : TS[d]? = (tr j).t[d]? := ready_slot hS hI ho hj hp (by
      unfold slotsOf
      simp only [List.mem_append]
      exact .inl (.inl (List.mem_filterMap.2 ⟨_, hx, rfl⟩)))
    simp only [evA, List.getD_eq_getElem?_getD, this]
  | _ => rfl
omit hT in
theorem ready_wanted : wantedA ops TS o = wantedA ops (tr j).t o := by
  unfold wantedA
  cases hg : o.guard with
  | none => rfl
  | some q =>
    obtain ⟨g, want⟩ := q
    simp only
    have : yieldedA ops TS g = yieldedA ops (tr j).t g := by
      unfold yieldedA
      cases hd : (ops[g]?).bind (·.dst) with
      | none => rfl
      | some d =>
        simp only [Option.bind_some]
        have : TS[d]? = (tr j).t[d]? := ready_slot hS hI ho hj hp (by
          unfold slotsOf
          simp only [List.mem_append]
          exact .inl (.inr (by rw [hg]; simp [hd])))
        rw [this]
    rw [this]
theorem next_tval : ∀ d m, m ≤ ops.size → (∀ i oi, ops[i]? = some oi → oi.dst = some d → (put1 S j i = true ↔ i < m)) → (putA TS o.dst (vs j))[d]? = (tr m).t[d]? := by
  intro d m hm hw
  have hjs := (Array.getElem?_eq_some_iff.1 ho).1
  by_cases hd : o.dst = some d
  · have hjm : j < m := (hw j o ho hd).1 (put1_self S j)
    rw [hd, putA_self, hI.tlen]
    have : (tr m).t[d]? = (tr (j + 1)).t[d]? := by
      refine tr_stay hT (by omega) hm fun i oi h1 h2 hoi hdi => ?_
      have hSi := put1_or ((hw i oi hoi hdi).2 h2)
      rcases hSi with h | h
      · omega
      · have := hI.down j i h (hS.clash j i o oi (by omega) ho hoi ⟨d, .inl ⟨hd, by simp [slotsOf, hdi]⟩⟩)
        rw [hj] at this; simp at this
    rw [this, tr_t hT ho, hd, putA_self, tr_tlen hT (show j ≤ ops.size by omega)]
  · rw [putA_other _ hd]
    refine hI.tval d m hm fun i oi hoi hdi => ?_
    have hij : i ≠ j := by rintro rfl; rw [ho] at hoi; injection hoi with hoi; subst hoi; exact hd hdi
    rw [← hw i oi hoi hdi, put1_ne hij]
end region

end Go.Proofs.YtabkcbaknjenmaaAM

/-
  AN ABSTRACT MACHINE OVER THE MODEL, part 15: one operation of a region that draws its order.
-/
set_option linter.unusedVariables false
set_option linter.unusedSimpArgs false
namespace Go.Proofs.YtabkcbaknjenmaaAM
open Go
variable {P : Program} {ops : Array Oper} {tr : Nat → St} {vs : Nat → Value} {ρ0 : Rho} {w0 : World} {a0 : Act} {S : Nat → Bool} {τ : Nat} {ρ : Rho} {Mc : Mem} {w : World} {TS : List Value} {aC : Act}

/-- All that stays fixed. -/
structure Base (P : Program) (ops : Array Oper) (tr : Nat → St) (vs : Nat → Value) (ρ0 : Rho) (w0 : World) (a0 : Act) : Prop where
  slots : Slots ops
  hv : heavyOk ops = true
  trace : Trace P ops tr vs
  rel : Rel ρ0 (tr 0).M w0
  tmps : LRel ρ0 (tr 0).t a0.tmps.toList
theorem Base.mono {ρ0 : Rho} {w0 : World} {a0 : Act} (B : Base P ops tr vs ρ0 w0 a0) {i k : Nat} (h : i ≤ k) (hk : k ≤ ops.size) : (tr i).M.length ≤ (tr k).M.length := len_mono B.trace B.rel B.tmps h hk
theorem Base.quiet {ρ0 : Rho} {w0 : World} {a0 : Act} (B : Base P ops tr vs ρ0 w0 a0) {i k x : Nat} (h : i ≤ k) (hk : k ≤ ops.size) (hq : ∀ m, i ≤ m → m < k → HvAt ops m → x < (tr m).M.length → (tr (m + 1)).M[x]? = (tr m).M[x]?) (hx : x < (tr i).M.length) : (tr k).M[x]? = (tr i).M[x]? := quiet_run B.trace B.rel B.tmps h hk hq hx
/-- The text's own run: where an object stood there. -/
theorem Base.text {ρ0 : Rho} {w0 : World} {a0 : Act} (B : Base P ops tr vs ρ0 w0 a0) {i : Nat} (hi : i ≤ ops.size) : ∃ (ρt : Rho) (wt : World) (at_ : Act), Ext ρ0 (tr 0).M w0 ρt (tr i).M wt ∧ LRel ρt (tr i).t at_.tmps.toList ∧ (∀ x p, ρt x = some p → x < (tr i).M.length) := by
  obtain ⟨ρt, wt, at_, h1, h2⟩ := text_run B.trace B.rel B.tmps i hi
  exact ⟨ρt, wt, at_, h1, h2, fun x p e => by obtain ⟨o, a, _⟩ := h1.rel.obj x p e; exact (List.getElem?_eq_some_iff.1 a).1⟩

section one
variable (B : Base P ops tr vs ρ0 w0 a0) (hI : Inv ops tr ρ0 w0 a0 S τ ρ Mc w TS aC)
include B hI
omit hI in
theorem in0 {x : Nat} {q : Place} (h : ρ0 x = some q) : x < (tr 0).M.length := by
  obtain ⟨o, a, _⟩ := B.rel.obj x q h
  exact (List.getElem?_eq_some_iff.1 a).1
/-- What lies beyond the next heavy one's memory: made ahead of it. -/
theorem beyond {x : Nat} {p : Place} (e : ρ x = some p) (hx : (tr τ).M.length ≤ x) : ∃ j o vs' u, S j = true ∧ τ < j ∧ ops[j]? = some o ∧ makeOp o.op = true ∧ (tr (j + 1)).M = (tr j).M ++ [.cells vs' u .live] ∧ x = (tr j).M.length ∧ Mc[x]? = some (.cells vs' u .live) := by
  rcases hI.dom x p e with ⟨q, hq⟩ | ⟨j, hj, h1, h2⟩
  · have := in0 B hq
    have := B.mono (Nat.zero_le τ) hI.tau
    omega
  · have hjs := hI.bound j hj
    have hτj : τ ≤ j := by
      rcases Nat.lt_or_ge j τ with h | h
      · have := B.mono (i := j + 1) (k := τ) (by omega) hI.tau
        omega
      · exact h
    have ho := Array.getElem?_eq_getElem hjs
    cases hh : heavyOp ops[j].op with
    | true =>
      have := (hI.hvy j ⟨_, ho, hh⟩).1 hj
      omega
    | false =>
      have hne : τ ≠ j := by
        rintro rfl
        obtain ⟨o, ho2, hh2⟩ := hI.nxt hjs
        rw [ho] at ho2; injection ho2 with ho2; subst ho2
        rw [hh] at hh2; simp at hh2
      rcases quiet_step B.trace ho hh with h | ⟨_, hm, vs', u, h⟩
      · rw [h] at h2; omega
      · have hx' : x = (tr j).M.length := by rw [h] at h2; simp at h2; omega
        refine ⟨j, _, vs', u, hj, by omega, ho, hm, h, hx', ?_⟩
        rw [hI.mhi j hj hτj x h1 h2, h, hx']
        simp
theorem placed_text {i : Nat} (hi : i ≤ ops.size) {ρt : Rho} {wt : World} (h : Ext ρ0 (tr 0).M w0 ρt (tr i).M wt) {x : Nat} {p : Place} (e : ρ x = some p) (hx : x < (tr i).M.length) : ∃ q, ρt x = some q := by
  rcases hI.dom x p e with ⟨q, hq⟩ | ⟨j, hj, h1, h2⟩
  · exact ⟨q, h.le _ _ hq⟩
  · exact h.new x (Nat.le_trans (B.mono (Nat.zero_le j) (Nat.le_of_lt (hI.bound j hj))) h1) hx
/-- The part that the next heavy one sees. -/
theorem seen : Rel (ρ.cut (· < (tr τ).M.length)) (tr τ).M w := by
  obtain ⟨ρt, wt, at_, h1, h2, h3⟩ := B.text hI.tau
  have hR := hI.wide.rel
  refine ⟨?_, ?_, ?_⟩
  · intro x p e
    obtain ⟨hx, e'⟩ := Rho.cut_out e
    obtain ⟨o, ho, hr⟩ := hR.obj x p e'
    obtain ⟨q, hq⟩ := placed_text B hI hI.tau h1 e' hx
    obtain ⟨o2, ho2, hr2⟩ := h1.rel.obj x q hq
    rw [hI.mlo x hx] at ho
    rw [ho] at ho2; injection ho2 with ho2; subst ho2
    exact ⟨o, ho, hr.cut h3 hr2⟩
  · intro x p e
    exact hR.blk x p (Rho.cut_out e).2
  · intro x y p q o o' ex ey hxy hox hoy hw ha
    obtain ⟨hx, ex'⟩ := Rho.cut_out ex
    obtain ⟨hy, ey'⟩ := Rho.cut_out ey
    exact hR.sep x y p q o o' ex' ey' hxy (by rw [hI.mlo x hx]; exact hox) (by rw [hI.mlo y hy]; exact hoy) hw ha

variable {j : Nat} {o : Oper} (ho : ops[j]? = some o) (hj : S j = false) (hp : ∀ i ∈ preds ops j, S i = true)
include ho hj hp
omit B in
theorem down1 : ∀ i k, put1 S j k = true → Reach ops i k → put1 S j i = true := by
  intro i k hk h
  rcases put1_or hk with rfl | hk
  · exact put1_of (ready_all hI hp h)
  · exact put1_of (hI.down i k hk h)
omit B in
theorem bound1 : ∀ i, put1 S j i = true → i < ops.size := by
  intro i hi
  rcases put1_or hi with rfl | hi
  · exact (Array.getElem?_eq_some_iff.1 ho).1
  · exact hI.bound i hi

/-- A heavy one: it is the next. -/
theorem heavy_next (hh : heavyOp o.op = true) : j = τ := by
  have hjs := (Array.getElem?_eq_some_iff.1 ho).1
  have h1 := hI.hvy j ⟨o, ho, hh⟩
  rw [hj] at h1
  have h2 : ¬ j < τ := fun h => by simpa using h1.2 h
  rcases Nat.lt_or_ge τ j with h | h
  · have hv := hI.nxt (by omega)
    have := ready_all hI hp (heavyOk_spec B.hv hv ⟨o, ho, hh⟩ h)
    have := (hI.hvy τ hv).1 this
    omega
  · omega

theorem inv_heavy (hh : heavyOp o.op = true) {ρ1 : Rho} {w1 : World} {v' : Value} (h : Ext (ρ.cut (· < (tr τ).M.length)) (tr τ).M w ρ1 (tr (τ + 1)).M w1) (hv : VRel ρ1 (vs j) v') :
    ∃ τ' ρ' Mc', Inv ops tr ρ0 w0 a0 (put1 S j) τ' ρ' Mc' w1 (putA TS o.dst (vs j)) (aC.put o.dst v') := by
  have hjt := heavy_next B hI ho hj hp hh
  have hjs := (Array.getElem?_eq_some_iff.1 ho).1
  obtain ⟨τ', t1, t2, t3, t4⟩ := next_heavy ops _ (j + 1) rfl (by omega)
  subst hjt
  have L1 : (tr (j + 1)).M.length ≤ (tr τ').M.length := B.mono t1 t2
  have L0 : (tr j).M.length ≤ (tr (j + 1)).M.length := B.mono (by omega) (by omega)
  have LN : (tr τ').M.length ≤ (tr ops.size).M.length := B.mono t2 (Nat.le_refl _)
  have hdropx : ∀ x, (tr τ').M.length ≤ x → ((tr τ').M ++ Mc.drop (tr τ').M.length)[x]? = Mc[x]? := by
    intro x hx
    rw [List.getElem?_append_right hx, List.getElem?_drop]
    congr 1
    omega
  have hlow : ∀ x, x < (tr τ').M.length → ((tr τ').M ++ Mc.drop (tr τ').M.length)[x]? = (tr τ').M[x]? := fun x hx => List.getElem?_append_left hx
  obtain ⟨le1, hw⟩ := Ext.widen (Mc' := (tr τ').M ++ Mc.drop (tr τ').M.length) hI.wide.rel (fun x p _ hx => hI.mlo x hx)
    (fun x p ob e hx hob => by
      obtain ⟨j', o', vs', u, _, _, _, _, _, _, hc⟩ := beyond B hI e hx
      rw [hc] at hob; injection hob with hob; subst hob; rfl) h
    (fun x p e => by
      obtain ⟨ob, hob, _⟩ := h.rel.obj x p e
      have hx := (List.getElem?_eq_some_iff.1 hob).1
      rw [hlow x (by omega)]
      exact B.quiet t1 t2 (fun m h1 h2 h3 _ => absurd h3 (t4 m h1 h2)) hx)
    (fun x p e hx => by
      obtain ⟨j', o', vs', u, hj', hlt, ho', hm, hM, hxe, hc⟩ := beyond B hI e hx
      have hjs' := hI.bound j' hj'
      have Lj : (tr (j + 1)).M.length ≤ (tr j').M.length := B.mono (by omega) (by omega)
      have hx1 : x < (tr (j' + 1)).M.length := by rw [hM, hxe]; simp
      constructor
      · cases e1 : ρ1 x with
        | none => rfl
        | some q =>
          rcases h.dom x q e1 with ⟨q2, hq2⟩ | ⟨_, hlt2⟩
          · have := (Rho.cut_out hq2).1; omega
          · omega
      · rcases Nat.lt_or_ge x (tr τ').M.length with hxl | hxl
        · rw [hlow x hxl]
          have hjt' : j' < τ' := by
            rcases Nat.lt_or_ge j' τ' with h | h
            · exact h
            · have := B.mono h (Nat.le_of_lt hjs'); omega
          rw [B.quiet (i := j' + 1) (k := τ') (by omega) t2 (fun m h1 h2 h3 _ => absurd h3 (t4 m (by omega) h2)) hx1, hc, hM, hxe]
          simp
        · exact hdropx x hxl)
  refine ⟨τ', ρ1.join ρ, (tr τ').M ++ Mc.drop (tr τ').M.length, ?_⟩
  refine { down := down1 hI ho hj hp, bound := bound1 hI ho hj hp, tau := t2, hvy := ?_, nxt := t3, mlen := ?_, mlo := hlow, mhi := ?_, dom := ?_, new := ?_, wide := hI.wide.trans hw, tlen := ?_, tval := ?_, trel := ?_, defs := ?_ }
  · intro i hi
    have hj0 := hI.hvy j ⟨o, ho, hh⟩
    by_cases hij : i = j
    · subst hij
      exact ⟨fun _ => by omega, fun _ => put1_self S i⟩
    · rw [put1_ne hij, hI.hvy i hi]
      refine ⟨fun _ => by omega, fun h' => ?_⟩
      rcases Nat.lt_or_ge i (j + 1) with h2 | h2
      · omega
      · exact absurd hi (t4 i h2 h')
  · simp [hI.mlen]; omega
  · intro i hi hti x h1 h2
    rcases put1_or hi with rfl | hi
    · omega
    · have : (tr τ').M.length ≤ (tr i).M.length := B.mono hti (Nat.le_of_lt (hI.bound i hi))
      rw [hdropx x (by omega)]
      exact hI.mhi i hi (by omega) x h1 h2
  · intro x p e
    cases e1 : ρ1 x with
    | some q =>
      rcases h.dom x q e1 with ⟨q2, hq2⟩ | ⟨a, b⟩
      · obtain ⟨_, e2⟩ := Rho.cut_out hq2
        rcases hI.dom x q2 e2 with h3 | ⟨i, hi, h4⟩
        · exact .inl h3
        · exact .inr ⟨i, put1_of hi, h4⟩
      · exact .inr ⟨j, put1_self S j, a, b⟩
    | none =>
      rw [Rho.join_none e1] at e
      rcases hI.dom x p e with h3 | ⟨i, hi, h4⟩
      · exact .inl h3
      · exact .inr ⟨i, put1_of hi, h4⟩
  · intro i hi x h1 h2
    rcases put1_or hi with rfl | hi
    · obtain ⟨p, e⟩ := h.new x h1 h2
      exact ⟨p, le1 _ _ e⟩
    · obtain ⟨p, e⟩ := hI.new i hi x h1 h2
      exact ⟨p, hw.le _ _ e⟩
  · rw [putA_length, hI.tlen]
  · exact next_tval B.slots B.trace hI ho hj hp
  · exact put_rel (hI.trel.mono hw.le) o.dst (hv.mono le1)
  · rw [put_defers]; exact hI.defs

/-- A light one. -/
theorem inv_light (hh : heavyOp o.op = false) (hM : (tr (j + 1)).M = (tr j).M) {ρ1 : Rho} {w1 : World} {v' : Value} (h : Wide ρ Mc w ρ1 Mc w1) (hd : ∀ x p, ρ1 x = some p → ρ x = some p) (hv : VRel ρ1 (vs j) v') :
    Inv ops tr ρ0 w0 a0 (put1 S j) τ ρ1 Mc w1 (putA TS o.dst (vs j)) (aC.put o.dst v') := by
  refine { down := down1 hI ho hj hp, bound := bound1 hI ho hj hp, tau := hI.tau, hvy := ?_, nxt := hI.nxt, mlen := hI.mlen, mlo := hI.mlo, mhi := ?_, dom := ?_, new := ?_, wide := hI.wide.trans h, tlen := ?_, tval := ?_, trel := ?_, defs := ?_ }
  · intro i hi
    have hij : i ≠ j := by
      rintro rfl
      obtain ⟨o2, ho2, hh2⟩ := hi
      rw [ho] at ho2; injection ho2 with ho2; subst ho2
      rw [hh] at hh2; simp at hh2
    rw [put1_ne hij]
    exact hI.hvy i hi
  · intro i hi hti x h1 h2
    rcases put1_or hi with rfl | hi
    · rw [hM] at h2; omega
    · exact hI.mhi i hi hti x h1 h2
  · intro x p e
    rcases hI.dom x p (hd x p e) with h3 | ⟨i, hi, h4⟩
    · exact .inl h3
    · exact .inr ⟨i, put1_of hi, h4⟩
  · intro i hi x h1 h2
    rcases put1_or hi with rfl | hi
    · rw [hM] at h2; omega
    · obtain ⟨p, e⟩ := hI.new i hi x h1 h2
      exact ⟨p, h.le _ _ e⟩
  · rw [putA_length, hI.tlen]
  · exact next_tval B.slots B.trace hI ho hj hp
  · exact put_rel (hI.trel.mono h.le) o.dst hv
  · rw [put_defers]; exact hI.defs

theorem unplaced {c : AObj} (hM : (tr (j + 1)).M = (tr j).M ++ [c]) : ρ (tr j).M.length = none := by
  have hjs := (Array.getElem?_eq_some_iff.1 ho).1
  cases e : ρ (tr j).M.length with
  | none => rfl
  | some p =>
    rcases hI.dom _ p e with ⟨q, hq⟩ | ⟨i, hi, h1, h2⟩
    · have := in0 B hq
      have := B.mono (Nat.zero_le j) (Nat.le_of_lt hjs)
      omega
    · have his := hI.bound i hi
      rcases Nat.lt_trichotomy i j with h | rfl | h
      · have := B.mono (i := i + 1) (k := j) (by omega) (by omega); omega
      · rw [hj] at hi; simp at hi
      · have := B.mono (i := j + 1) (k := i) (by omega) (by omega)
        rw [hM] at this; simp at this; omega

/-- One that makes an object. -/
theorem inv_make (hh : heavyOp o.op = false) {c : AObj} (hM : (tr (j + 1)).M = (tr j).M ++ [c]) (hc : ∀ i, j < i → i < τ → HvAt ops i → (tr (i + 1)).M[(tr j).M.length]? = (tr i).M[(tr j).M.length]?) {q : Place} {w1 : World} {v' : Value}
    (h : Wide ρ Mc w (ρ.put (tr j).M.length q) (Mc.set (tr j).M.length c) w1) (hv : VRel (ρ.put (tr j).M.length q) (vs j) v') :
    Inv ops tr ρ0 w0 a0 (put1 S j) τ (ρ.put (tr j).M.length q) (Mc.set (tr j).M.length c) w1 (putA TS o.dst (vs j)) (aC.put o.dst v') := by
  have hjs := (Array.getElem?_eq_some_iff.1 ho).1
  have hL : (tr (j + 1)).M.length = (tr j).M.length + 1 := by rw [hM]; simp
  have hjl : (tr j).M.length < Mc.length := by
    have := B.mono (i := j + 1) (k := ops.size) (by omega) (Nat.le_refl _)
    rw [hI.mlen]; omega
  have hat : (tr (j + 1)).M[(tr j).M.length]? = some c := by rw [hM]; simp
  refine { down := down1 hI ho hj hp, bound := bound1 hI ho hj hp, tau := hI.tau, hvy := ?_, nxt := hI.nxt, mlen := ?_, mlo := ?_, mhi := ?_, dom := ?_, new := ?_, wide := hI.wide.trans h, tlen := ?_, tval := ?_, trel := ?_, defs := ?_ }
  · intro i hi
    have hij : i ≠ j := by
      rintro rfl
      obtain ⟨o2, ho2, hh2⟩ := hi
      rw [ho] at ho2; injection ho2 with ho2; subst ho2
      rw [hh] at hh2; simp at hh2
    rw [put1_ne hij]
    exact hI.hvy i hi
  · rw [List.length_set]; exact hI.mlen
  · intro x hx
    by_cases hxj : x = (tr j).M.length
    · subst hxj
      rw [List.getElem?_set_self hjl]
      have hjt : j < τ := by
        rcases Nat.lt_or_ge j τ with h | h
        · exact h
        · have := B.mono h (Nat.le_of_lt hjs); omega
      rw [B.quiet (i := j + 1) (k := τ) (by omega) hI.tau (fun m h1 h2 h3 _ => hc m (by omega) h2 h3) (by omega), hat]
    · rw [List.getElem?_set_ne (Ne.symm hxj)]
      exact hI.mlo x hx
  · intro i hi hti x h1 h2
    rcases put1_or hi with rfl | hiS
    · obtain rfl : x = (tr i).M.length := by omega
      rw [List.getElem?_set_self hjl, hat]
    · have his := hI.bound i hiS
      have hxj : x ≠ (tr j).M.length := by
        rintro rfl
        rcases Nat.lt_trichotomy i j with h | rfl | h
        · have := B.mono (i := i + 1) (k := j) (by omega) (by omega); omega
        · rw [hj] at hiS; simp at hiS
        · have := B.mono (i := j + 1) (k := i) (by omega) (by omega); omega
      rw [List.getElem?_set_ne (Ne.symm hxj)]
      exact hI.mhi i hiS hti x h1 h2
  · intro x p e
    by_cases hxj : x = (tr j).M.length
    · exact .inr ⟨j, put1_self S j, by omega, by omega⟩
    · rw [Rho.put_ne _ _ hxj] at e
      rcases hI.dom x p e with h3 | ⟨i, hi, h4⟩
      · exact .inl h3
      · exact .inr ⟨i, put1_of hi, h4⟩
  · intro i hi x h1 h2
    rcases put1_or hi with rfl | hi
    · obtain rfl : x = (tr i).M.length := by omega
      exact ⟨q, Rho.put_same _ _ _⟩
    · obtain ⟨p, e⟩ := hI.new i hi x h1 h2
      exact ⟨p, h.le _ _ e⟩
  · rw [putA_length, hI.tlen]
  · exact next_tval B.slots B.trace hI ho hj hp
  · exact put_rel (hI.trel.mono h.le) o.dst hv
  · rw [put_defers]; exact hI.defs
end one

end Go.Proofs.YtabkcbaknjenmaaAM

/-
  AN ABSTRACT MACHINE OVER THE MODEL, part 16: a region that draws its order, run in the text's order: the whole.
-/
set_option linter.unusedVariables false
set_option linter.unusedSimpArgs false
namespace Go.Proofs.YtabkcbaknjenmaaAM
open Go
variable {P : Program} {ops : Array Oper} {tr : Nat → St} {vs : Nat → Value} {ρ0 : Rho} {w0 : World} {a0 : Act} {S : Nat → Bool} {τ : Nat} {ρ : Rho} {Mc : Mem} {w : World} {TS : List Value} {aC : Act}

theorem idOf_placed {ρ : Rho} {v v' : Value} {x : Nat} (h : VRel ρ v v') (hx : x ∈ idOf v) : ∃ p, ρ x = some p := by
  cases h <;> simp [idOf] at hx <;> subst hx <;> exact ⟨_, by assumption⟩
theorem readsA_operand {t : List Value} {o : Op} {x : Nat} (h : x ∈ readsA t o) : ∃ y ∈ o.operands.toList, x ∈ idOf (evA t y) := by
  unfold readsA at h
  split at h
  · exact ⟨_, by simp [Op.operands], h⟩
  · exact ⟨_, by simp [Op.operands], h⟩
  · exact ⟨_, by simp [Op.operands], h⟩
  · rw [List.mem_flatMap] at h
    obtain ⟨y, hy, h⟩ := h
    exact ⟨y, by simpa [Op.operands, Call.operands] using hy, h⟩
  · simp at h

theorem one_step (B : Base P ops tr vs ρ0 w0 a0) (hI : Inv ops tr ρ0 w0 a0 S τ ρ Mc w TS aC) {j : Nat} (hjs : j < ops.size) (hj : S j = false) (hp : ∀ i ∈ preds ops j, S i = true) (b : Frame) (kk : List Item) (cs : List Frame) (l : List Nat) :
    ∃ τ' ρ' Mc' w' TS' aC', Inv ops tr ρ0 w0 a0 (put1 S j) τ' ρ' Mc' w' TS' aC' ∧ Steps P (lone (Fr b aC (.inRegion ops (j :: l) :: kk)) cs w) (lone (Fr b aC' (.inRegion ops l :: kk)) cs w') := by
  obtain ⟨o, ho⟩ : ∃ o, ops[j]? = some o := ⟨_, Array.getElem?_eq_getElem hjs⟩
  have hwe := ready_wanted B.slots hI ho hj hp
  have hwc : Region.wanted o (yielded ops aC.tmps) = wantedA ops (tr j).t o := by rw [wanted_rel hI.trel, hwe]
  have hev : ∀ x ∈ o.op.operands.toList, okX x = true → VRel ρ (evA (tr j).t x) (aC.eval x) := fun x hx hok => by
    rw [← ready_ev B.slots hI ho hj hp hx]
    exact evA_rel hI.trel hok
  -- heavy ones that are not ordered against this one
  have free : ∀ m, HvAt ops m → ((τ ≤ m ∧ m < j) ∨ (j < m ∧ m < τ)) → ¬ Reach ops m j ∧ ¬ Reach ops j m := by
    intro m hm h
    rcases h with ⟨h1, h2⟩ | ⟨h1, h2⟩
    · refine ⟨fun hr => ?_, fun hr => ?_⟩
      · have := (hI.hvy m hm).1 (ready_all hI hp hr); omega
      · have := hr.lt B.slots; omega
    · refine ⟨fun hr => ?_, fun hr => ?_⟩
      · have := hr.lt B.slots; omega
      · have := hI.down j m ((hI.hvy m hm).2 h2) hr
        rw [hj] at this; simp at this
  cases hw : wantedA ops (tr j).t o with
  | false =>
    obtain ⟨hv, hM⟩ := B.trace.off j o ho hw
    have hst := st_opSkip (P := P) (b := b) (a := aC) (k := kk) (cs := cs) (w := w) (ops := ops) (i := j) (rest := l) (by rw [ho]; simp only [Option.map_some, Option.getD_some]; rw [hwc, hw])
    rw [ho] at hst
    cases hh : heavyOp o.op with
    | true =>
      have hjt := heavy_next B hI ho hj hp hh
      have hsn := seen B hI
      obtain ⟨τ', ρ', Mc', h⟩ := inv_heavy B hI ho hj hp hh (w1 := w) (v' := undef) (ρ1 := ρ.cut (· < (tr τ).M.length)) (by rw [← hjt] at hsn ⊢; rw [hM]; exact Ext.refl hsn) (by rw [hv]; exact VRel.undef _)
      exact ⟨τ', ρ', Mc', w, _, _, h, .one hst⟩
    | false => exact ⟨τ, ρ, Mc, w, _, _, inv_light B hI ho hj hp hh hM (Ext.refl hI.wide.rel).wide (fun x p e => e) (by rw [hv]; exact VRel.undef _), .one hst⟩
  | true =>
    rw [hw] at hwc
    cases hh : heavyOp o.op with
    | true =>
      have hjt := heavy_next B hI ho hj hp hh
      subst hjt
      obtain ⟨ρt, wt, at_, ht1, ht2, ht3⟩ := B.text (i := j) (by omega)
      obtain ⟨ρ1, w1, hx, v', hv, hst⟩ := B.trace.heavy j o ho hw hh o ho _ w aC (seen B hI) (fun x hx hok => (hev x hx hok).cut ht3 (evA_rel ht2 hok)) hwc b kk cs l
      obtain ⟨τ', ρ', Mc', h⟩ := inv_heavy B hI ho hj hp hh hx hv
      exact ⟨τ', ρ', Mc', w1, _, _, h, hst⟩
    | false =>
      obtain ⟨hok, hop⟩ := B.trace.light j o ho hw hh
      have hcls : lightOp o.op = true ∨ makeOp o.op = true := by simpa only [heavyOp, Bool.not_eq_false', Bool.or_eq_true] using hh
      cases hmk : makeOp o.op with
      | false =>
        have hli : lightOp o.op = true := by rcases hcls with h | h
                                             · exact h
                                             · rw [hmk] at h; simp at h
        obtain ⟨hM, hsame⟩ := light_same P hli hop
        obtain ⟨ρt, wt, at_, ht1, ht2, ht3⟩ := B.text (i := j) (by omega)
        have hrd : ∀ x ∈ readsA (tr j).t o.op, Mc[x]? = (tr j).M[x]? := by
          intro x hx
          obtain ⟨y, hy, hyx⟩ := readsA_operand hx
          have hoky : okX y = true := List.all_eq_true.1 hok y hy
          obtain ⟨p, hpx⟩ := idOf_placed (hev y hy hoky) hyx
          obtain ⟨pt, hpt⟩ := idOf_placed (evA_rel ht2 hoky) hyx
          have hxj := ht3 x pt hpt
          have hmem : readsMem o.op = true := by
            cases hm : readsMem o.op with
            | true => rfl
            | false => rw [readsA_nil hm] at hx; simp at hx
          have calm : ∀ m, HvAt ops m → ((τ ≤ m ∧ m < j) ∨ (j < m ∧ m < τ)) → x < (tr m).M.length → (tr (m + 1)).M[x]? = (tr m).M[x]? := by
            intro m hm h hxm
            obtain ⟨f1, f2⟩ := free m hm h
            exact B.trace.calm (m, j) (conf_spec hm ho (.inl hmem) f1 f2) o ho hw x (by simp [touchA, hmk, hx]) hxm
          rcases Nat.lt_or_ge x (tr τ).M.length with hxt | hxt
          · rw [hI.mlo x hxt]
            rcases Nat.lt_or_ge j τ with h | h
            · exact B.quiet (Nat.le_of_lt h) hI.tau (fun m h1 h2 h3 h4 => by
                by_cases hmj : m = j
                · subst hmj; rw [hM]
                · exact calm m h3 (.inr ⟨by omega, h2⟩) h4) hxj
            · exact (B.quiet h (by omega) (fun m h1 h2 h3 h4 => calm m h3 (.inl ⟨h1, h2⟩) h4) hxt).symm
          · obtain ⟨j', o', vs', u, hj', hlt, ho', hm', hM', hxe, hc⟩ := beyond B hI hpx hxt
            have hj's := hI.bound j' hj'
            have hjj : j' < j := by
              rcases Nat.lt_or_ge j' j with h | h
              · exact h
              · have := B.mono h (by omega); omega
            rw [B.quiet (i := j' + 1) (k := j) (by omega) (by omega) (fun m h1 h2 h3 h4 => calm m h3 (.inl ⟨by omega, h2⟩) h4) (by rw [hM', hxe]; simp), hc, hM', hxe]
            simp
        obtain ⟨ρ1, w1, hx, v', hv, hst⟩ := s_valLight ho hok (hsame Mc hrd) o ho ρ w aC hI.wide.rel hev hwc b kk cs l
        refine ⟨τ, ρ1, Mc, w1, _, _, inv_light B hI ho hj hp hh hM hx.wide (fun x p e => ?_) hv, hst⟩
        rcases hx.dom x p e with ⟨q, hq⟩ | ⟨h1, h2⟩
        · have := hx.le _ _ hq
          rw [e] at this; injection this with this; subst this; exact hq
        · omega
      | true =>
        obtain ⟨vs', u, mk, hM, hvj, hsame, hmkf⟩ := make_same P hmk hop
        obtain ⟨ρ1, w1, hx, v', hv, hst⟩ := s_valLight ho hok (hsame Mc) o ho ρ w aC hI.wide.rel hev hwc b kk cs l
        have hL : (tr (j + 1)).M.length = (tr j).M.length + 1 := by rw [hM]; simp
        have hjl : (tr j).M.length < Mc.length := by
          have := B.mono (i := j + 1) (k := ops.size) (by omega) (Nat.le_refl _)
          rw [hI.mlen]; omega
        obtain ⟨ρt, wt, at_, ht1, ht2, ht3⟩ := B.text (i := j + 1) (by omega)
        obtain ⟨pt, hpt⟩ := ht1.new (tr j).M.length (B.mono (Nat.zero_le j) (by omega)) (by omega)
        obtain ⟨ot, hot, hort⟩ := ht1.rel.obj _ _ hpt
        have hat : (tr (j + 1)).M[(tr j).M.length]? = some (.cells vs' u .live) := by rw [hM]; simp
        rw [hat] at hot; injection hot with hot; subst hot
        obtain ⟨q, hq, hwd⟩ := Ext.rename hI.wide.rel hx (unplaced B hI ho hj hp hM) hjl hort (fun x p e => by
          have := ht3 x p e
          have := B.mono (i := j + 1) (k := ops.size) (by omega) (Nat.le_refl _)
          rw [hI.mlen]; omega)
        refine ⟨τ, _, _, w1, _, _, inv_make B hI ho hj hp hh hM (fun m h1 h2 h3 => ?_) hwd (v' := v') ?_, hst⟩
        · obtain ⟨f1, f2⟩ := free m h3 (.inr ⟨h1, h2⟩)
          have hms : m < ops.size := (Array.getElem?_eq_some_iff.1 h3.choose_spec.1).1
          exact B.trace.calm (m, j) (conf_spec h3 ho (.inr ⟨hmk, h1⟩) f1 f2) o ho hw _ (by simp [touchA, hmk]) (by
            have := B.mono (i := j + 1) (k := m) (by omega) (by omega)
            show (tr j).M.length < (tr m).M.length
            omega)
        · rw [hvj]
          rcases hmkf with rfl | ⟨k, rfl⟩
          · cases hv with
            | ptr e =>
              rw [hq] at e; injection e with e; subst e
              exact .ptr (Rho.put_same _ _ _)
          · cases hv with
            | sli e hs =>
              rw [hq] at e; injection e with e; subst e
              exact .sli (Rho.put_same _ _ _) hs

/-! ### The whole region -/
def unl (ops : Array Oper) (listed : Array Bool) : Nat := (List.range ops.size).countP fun i => !listed.getD i true
theorem countP_lt {α : Type} {p q : α → Bool} {a : α} : ∀ (l : List α), a ∈ l → (∀ x ∈ l, q x = true → p x = true) → p a = true → q a = false → l.countP q < l.countP p
  | [], h, _, _, _ => by simp at h
  | x :: l, h, hpq, hpa, hqa => by
    have hle : l.countP q ≤ l.countP p := List.countP_mono_left fun y hy => hpq y (by simp [hy])
    rcases List.mem_cons.1 h with rfl | h
    · rw [List.countP_cons_of_neg (by simp [hqa]), List.countP_cons_of_pos hpa]
      omega
    · have := countP_lt l h (fun y hy => hpq y (by simp [hy])) hpa hqa
      rw [List.countP_cons, List.countP_cons]
      by_cases hq : q x = true
      · simp [hq, hpq x (by simp) hq]; omega
      · simp [hq]; omega

theorem run_drawn (B : Base P ops tr vs ρ0 w0 a0) (b : Frame) (kk : List Item) (cs : List Frame) : ∀ (fuel t : Nat) (listed : Array Bool) (S : Nat → Bool) (τ : Nat) (ρ : Rho) (Mc : Mem) (w : World) (TS : List Value) (aC : Act),
    Inv ops tr ρ0 w0 a0 S τ ρ Mc w TS aC → listed.size = ops.size → (∀ i, i < ops.size → listed.getD i true = S i) → unl ops listed ≤ fuel →
    ∃ (S' : Nat → Bool) (τ' : Nat) (ρ' : Rho) (Mc' : Mem) (w' : World) (TS' : List Value) (aC' : Act), Inv ops tr ρ0 w0 a0 S' τ' ρ' Mc' w' TS' aC' ∧ (∀ i, i < ops.size → S' i = true) ∧
      Steps P (lone (Fr b aC (.inRegion ops (Region.linearise.go .any ops fuel t listed []) :: kk)) cs w) (lone (Fr b aC' (.inRegion ops [] :: kk)) cs w') := by
  have dD : ∀ (listed : Array Bool) (i : Nat), i < listed.size → listed.getD i false = listed.getD i true := fun listed i h => by simp [Array.getD, h]
  intro fuel
  induction fuel with
  | zero =>
    intro t listed S τ ρ Mc w TS aC hI hsz hS hu
    refine ⟨S, τ, ρ, Mc, w, TS, aC, hI, fun i hi => ?_, ?_⟩
    · rw [← hS i hi]
      have : unl ops listed = 0 := by omega
      unfold unl at this
      rw [List.countP_eq_zero] at this
      simpa using this i (by simpa using hi)
    · simp only [Region.linearise.go, List.reverse_nil]; exact Steps.refl _ _
  | succ fuel ih =>
    intro t listed S τ ρ Mc w TS aC hI hsz hS hu
    have hready : ∀ i, i ∈ Region.ready .any ops listed ↔ i < ops.size ∧ S i = false ∧ ∀ k ∈ preds ops i, S k = true := by
      intro i
      unfold Region.ready
      rw [List.mem_filter]
      constructor
      · rintro ⟨hi, hc⟩
        have hi : i < ops.size := by simpa using hi
        rw [Bool.and_eq_true, hS i hi] at hc
        refine ⟨hi, by simpa using hc.1, fun k hk => ?_⟩
        have ho := Array.getElem?_eq_getElem hi
        have hks : k < i := B.slots.low i k hk
        rw [ho] at hc
        simp only [preds, ho, List.mem_map, List.mem_filter] at hk
        obtain ⟨e, ⟨he, hb⟩, rfl⟩ := hk
        have h2 := hc.2
        simp only [Option.map_some, Option.getD_some, Array.all_eq_true_iff_forall_mem] at h2
        have h3 := h2 e (by simpa using he)
        rw [hb] at h3
        rw [← hS _ (by omega), ← dD listed _ (by omega)]
        simpa using h3
      · rintro ⟨hi, h1, h2⟩
        refine ⟨by simpa using hi, ?_⟩
        rw [Bool.and_eq_true, hS i hi]
        refine ⟨by simp [h1], ?_⟩
        have ho := Array.getElem?_eq_getElem hi
        rw [ho]
        simp only [Option.map_some, Option.getD_some, Array.all_eq_true_iff_forall_mem]
        intro e he
        cases hb : Region.binds .any e with
        | false => simp
        | true =>
          have hm : e.on ∈ preds ops i := by
            simp only [preds, ho, List.mem_map, List.mem_filter]
            exact ⟨e, ⟨by simpa using he, hb⟩, rfl⟩
          have hks := B.slots.low i _ hm
          rw [dD listed _ (by omega), hS _ (by omega), h2 _ hm]
          simp
    have hnone : Region.ready .any ops listed = [] → ∀ i, i < ops.size → S i = true := by
      intro hnil i
      induction i using Nat.strongRecOn with
      | _ i ihi =>
        intro hi
        cases hs : S i with
        | true => rfl
        | false =>
          have : i ∈ Region.ready .any ops listed := (hready i).2 ⟨hi, hs, fun k hk => by
            have := B.slots.low i k hk
            exact ihi k this (by omega)⟩
          rw [hnil] at this; simp at this
    simp only [Region.linearise.go]
    change ∃ (S' : Nat → Bool) (τ' : Nat) (ρ' : Rho) (Mc' : Mem) (w' : World) (TS' : List Value) (aC' : Act), Inv ops tr ρ0 w0 a0 S' τ' ρ' Mc' w' TS' aC' ∧ (∀ i, i < ops.size → S' i = true) ∧
      Steps P (lone (Fr b aC (.inRegion ops (match (Region.ready .any ops listed)[t % (Region.ready .any ops listed).length]? with
      | some i => Region.linearise.go .any ops fuel (t / (Region.ready .any ops listed).length) (listed.setIfInBounds i true) [i]
      | none => [].reverse) :: kk)) cs w) (lone (Fr b aC' (.inRegion ops [] :: kk)) cs w')
    cases hi : (Region.ready .any ops listed)[t % (Region.ready .any ops listed).length]? with
    | none =>
      have hnil : Region.ready .any ops listed = [] := by
        cases hr : Region.ready .any ops listed with
        | nil => rfl
        | cons x xs =>
          rw [hr] at hi
          have hlt : t % (x :: xs).length < (x :: xs).length := Nat.mod_lt _ (by simp)
          simp at hi
          simp at hlt
          omega
      exact ⟨S, τ, ρ, Mc, w, TS, aC, hI, hnone hnil, Steps.refl _ _⟩
    | some i =>
      obtain ⟨hi1, hi2, hi3⟩ := (hready i).1 (List.mem_of_getElem? hi)
      simp only []
      rw [linearise_go_acc, List.reverse_singleton, List.singleton_append]
      obtain ⟨τ1, ρ1, Mc1, w1, TS1, aC1, hI1, hst⟩ := one_step B hI hi1 hi2 hi3 b kk cs (Region.linearise.go .any ops fuel (t / (Region.ready .any ops listed).length) (listed.setIfInBounds i true) [])
      have hget : ∀ k, k < ops.size → (listed.setIfInBounds i true).getD k true = put1 S i k := by
        intro k hk
        by_cases hki : k = i
        · subst hki; simp [Array.getD, hsz, hk, put1]
        · rw [put1_ne hki, ← hS k hk]
          simp [Array.getD, hsz, hk, Array.getElem_setIfInBounds, Ne.symm hki]
      obtain ⟨S', τ', ρ', Mc', w', TS', aC', k1, k2, k3⟩ := ih (t / (Region.ready .any ops listed).length) (listed.setIfInBounds i true) (put1 S i) τ1 ρ1 Mc1 w1 TS1 aC1 hI1 (by simp [hsz]) hget (by
        have : unl ops (listed.setIfInBounds i true) < unl ops listed := by
          refine countP_lt (a := i) _ (by simpa using hi1) (fun k hk h => ?_) (by rw [hS i hi1, hi2]; rfl) (by rw [hget i hi1, put1_self]; rfl)
          have hk : k < ops.size := by simpa using hk
          rw [hget k hk] at h
          rw [hS k hk]
          by_cases hki : k = i
          · subst hki; rw [put1_self] at h; simp at h
          · rw [put1_ne hki] at h; exact h
        omega)
      exact ⟨S', τ', ρ', Mc', w', TS', aC', k1, k2, hst.trans k3⟩

theorem find_row {ops : Array Oper} {tr : Nat → St} : ∀ (n x : Nat), (tr 0).M.length ≤ x → x < (tr n).M.length → ∃ j, j < n ∧ (tr j).M.length ≤ x ∧ x < (tr (j + 1)).M.length
  | 0, x, h1, h2 => by omega
  | n + 1, x, h1, h2 => by
    rcases Nat.lt_or_ge x (tr n).M.length with h | h
    · obtain ⟨j, a, b, c⟩ := find_row (ops := ops) n x h1 h
      exact ⟨j, by omega, b, c⟩
    · exact ⟨n, by omega, h, h2⟩

theorem st_regionD {P : Program} {b : Frame} {a : Act} {k : List Item} {cs : List Frame} {w : World} {id : Nat} {ops : Array Oper} :
    step P (lone (Fr b a (.code (.region id ops true) :: k)) cs w) = .next (lone (Fr b a (.inRegion ops (Region.schedule (P.follows .mixedOrders) ops (w.tape w.drawn (.order b.fn id))) :: k)) cs { w with drawn := w.drawn + 1 }) :=
  step_lone_go (by simp [stepG, stepG.exec, Fr, choose, Sem.run, Question.forced, Question.cut])

theorem s_regionD {fn : FuncId} {rd : Option Nat} {k : Ctx} {id : Nat} (hm : P.follows .mixedOrders = true) (hok : regionOk ops = true) (hT : Trace P ops tr vs) : SCode P fn rd k (.code (.region id ops true)) (tr 0) .normal (tr ops.size) := by
  intro ρ w aC hR ht hd b kk Cs h1 h2 h3 h4
  have hst := st_regionD (P := P) (b := b) (a := aC) (k := kk) (cs := Cs (tr 0).rc) (w := w) (id := id) (ops := ops)
  simp only [hm, Region.schedule, Bool.true_or, if_true] at hst
  generalize w.tape w.drawn (.order b.fn id) = t at hst
  have hR' : Rel ρ (tr 0).M { w with drawn := w.drawn + 1 } := ⟨fun x p e => by obtain ⟨o, a, c⟩ := hR.obj x p e; exact ⟨o, a, c.of_block rfl⟩, hR.blk, hR.sep⟩
  unfold regionOk at hok
  rw [Bool.and_eq_true] at hok
  have B : Base P ops tr vs ρ { w with drawn := w.drawn + 1 } aC := ⟨slotsOk_spec hok.1, hok.2, hT, hR', ht⟩
  obtain ⟨τ0, t1, t2, t3, t4⟩ := next_heavy ops _ 0 rfl (Nat.zero_le _)
  have L0 := B.mono (Nat.zero_le τ0) t2
  have LN := B.mono t2 (Nat.le_refl _)
  have hq : ∀ x, x < (tr 0).M.length → (tr τ0).M[x]? = (tr 0).M[x]? := fun x hx => B.quiet (Nat.zero_le _) t2 (fun m a b c _ => absurd c (t4 m a b)) hx
  have hI : Inv ops tr ρ { w with drawn := w.drawn + 1 } aC (fun _ => false) τ0 ρ ((tr τ0).M ++ List.replicate ((tr ops.size).M.length - (tr τ0).M.length) (.defers false)) { w with drawn := w.drawn + 1 } (tr 0).t aC := by
    refine { down := by simp, bound := by simp, tau := t2, hvy := fun i hi => ?_, nxt := t3, mlen := by simp; omega, mlo := fun x hx => List.getElem?_append_left hx, mhi := by simp, dom := fun x p e => .inl ⟨p, e⟩, new := by simp, wide := ?_, tlen := rfl, tval := ?_, trel := ht, defs := rfl }
    · refine ⟨fun h => by simp at h, fun h => absurd hi (t4 i (Nat.zero_le _) h)⟩
    · refine Wide.same hR' fun x p e => ?_
      obtain ⟨o, ho, _⟩ := hR'.obj x p e
      have hx := (List.getElem?_eq_some_iff.1 ho).1
      rw [List.getElem?_append_left (by omega)]
      exact hq x hx
    · intro d m hm hw
      refine (tr_stay hT (Nat.zero_le m) hm fun i o _ h2 h3 h4 => ?_).symm
      have := (hw i o h3 h4).2 h2
      simp at this
  obtain ⟨S', τ', ρ', Mc', w', TS', aC', k1, k2, k3⟩ := run_drawn B b kk (Cs (tr 0).rc) ops.size t (Array.replicate ops.size false) _ τ0 ρ _ _ _ _ hI (by simp) (fun i hi => by simp [Array.getD, hi]) (by unfold unl; exact Nat.le_trans List.countP_le_length (by simp))
  have hτ : τ' = ops.size := by
    rcases Nat.lt_or_ge τ' ops.size with h | h
    · have := (k1.hvy τ' (k1.nxt h)).1 (k2 τ' h); omega
    · have := k1.tau; omega
  subst hτ
  have hMc : Mc' = (tr ops.size).M := by
    apply List.ext_getElem?
    intro x
    rcases Nat.lt_or_ge x (tr ops.size).M.length with h | h
    · exact k1.mlo x h
    · rw [List.getElem?_eq_none (by rw [k1.mlen]; exact h), List.getElem?_eq_none h]
  subst hMc
  have hTS : TS' = (tr ops.size).t := by
    apply List.ext_getElem?
    intro d
    refine k1.tval d ops.size (Nat.le_refl _) fun i o h1 h2 => ?_
    have his := (Array.getElem?_eq_some_iff.1 h1).1
    exact ⟨fun _ => his, fun _ => k2 i his⟩
  subst hTS
  obtain ⟨ρt, wt, at_, e1, e2, e3⟩ := B.text (Nat.le_refl _)
  have kw := k1.wide
  have hE : Ext ρ (tr 0).M w ρ' (tr ops.size).M w' := by
    refine ⟨kw.rel, kw.le, fun x p e => ?_, fun x h1 h2 => ?_, e1.len, kw.os, kw.tape, kw.output, kw.size, kw.kept, kw.wb, e1.alive, e1.neww, kw.frz⟩
    · rcases k1.dom x p e with h | ⟨j, hj, h1, h2⟩
      · exact .inl h
      · have hjs := k1.bound j hj
        exact .inr ⟨Nat.le_trans (B.mono (Nat.zero_le j) (by omega)) h1, Nat.lt_of_lt_of_le h2 (B.mono (by omega) (Nat.le_refl _))⟩
    · obtain ⟨j, h3, h4, h5⟩ := find_row (ops := ops) ops.size x h1 h2
      exact k1.new j (k2 j h3) x h4 h5
  obtain ⟨hdd, hrc⟩ := tr_ds hT (Nat.le_refl ops.size)
  refine ⟨ρ', w', aC', hE, k1.trel, by rw [hdd, k1.defs]; exact hd.mono kw.le, ?_⟩
  rw [hrc]
  exact Steps.trans (.one hst) (Steps.trans k3 (.one st_regionEnd))

end Go.Proofs.YtabkcbaknjenmaaAM

/-
  AN ABSTRACT MACHINE OVER THE MODEL, part 17: what it does the model does.
-/
set_option linter.unusedVariables false
set_option linter.unusedSimpArgs false
namespace Go.Proofs.YtabkcbaknjenmaaAM
open Go

/-- Intrinsics do what is said of them. -/
def IntrOk (P : Program) (I : FuncId → List Value → Mem → Value → Mem → Prop) : Prop := ∀ f args M v M', I f args M v M' → SCall P .normal f args M (.ret v) M' false

theorem says_code {P : Program} {fn : FuncId} {rd : Option Nat} {k : Ctx} {c : Code} {s : St} {e : AExit} {s' : St} (h : SCode P fn rd k (.code c) s e s') (hc : ∀ bd, c ≠ .loop bd) : Says P (.code fn rd k c s) (.code e s') := ⟨h, fun bd h' => absurd h' (hc bd)⟩

theorem sound {P : Program} {I : FuncId → List Value → Mem → Value → Mem → Prop} (hP : P.follows .mixedOrders = true) (hI : IntrOk P I) {t : Task} {r : Res} (h : Ev P I t r) : Says P t r := by
  induction h with
  | skip => exact says_code (sc_here fun b a kk cs w => st_skip) (by simp)
  | seqN h h' ih ih' =>
    rename_i r
    cases r with
    | code e s' => exact says_code (sc_two (fun b a kk cs w => st_seq) ih.1 ih'.1) (by simp)
    | call => trivial
  | seqX h he ih => exact says_code (sc_twoX (fun b a kk cs w => st_seq) (fun _ _ => rfl) he ih.1) (by simp)
  | cond hx hc h ih =>
    rename_i r _
    cases r with
    | code e s' => exact says_code (s_cond hx hc ih.1) (by simp)
    | call => trivial
  | block h ih => exact says_code (s_block ih.1) (by simp)
  | loopN h h' ih ih' =>
    rename_i r
    cases r with
    | code e s' =>
      obtain ⟨a, b⟩ := s_loopN ih.1 (ih'.2 _ rfl)
      exact ⟨a, fun bd hb => by injection hb with hb; subst hb; exact b⟩
    | call => trivial
  | loopX h he ih =>
    obtain ⟨a, b⟩ := s_loopX ih.1 he
    exact ⟨a, fun bd hb => by injection hb with hb; subst hb; exact b⟩
  | exit => exact says_code s_exit (by simp)
  | ret => exact says_code s_ret (by simp)
  | region h ih =>
    rename_i r
    cases r with
    | code e s' => exact says_code (sc_step (fun b a kk cs w => st_region) ih) (by simp)
    | call => trivial
  | regionD hok h0 hs hoff hl hh hc ih =>
    subst h0
    exact says_code (s_regionD hP hok ⟨hs, hoff, hl, ih, hc⟩) (by simp)
  | rangeFn hx hf hwk h hl hb ih => exact says_code (s_rangeFn hx hf hwk ih hl hb (.inl ⟨rfl, rfl, rfl⟩)) (by simp)
  | rangeFnJ hx hf hwk h hl hb hnl hj ih ihj =>
    rename_i r _ _
    cases r with
    | code e s' => exact says_code (s_rangeFn hx hf hwk ih hl hb (.inr ⟨_, rfl, ihj.1⟩)) (by simp)
    | call => trivial
  | rangeFnP hx hf hwk h ih => exact says_code (s_rangeFnP hx hf hwk ih) (by simp)
  | opsNil => exact s_opsNil
  | opsCons h h' ih ih' =>
    rename_i r
    cases r with
    | code e s' => exact s_opsCons ih ih'
    | call => trivial
  | opsConsX h he ih => exact s_opsConsX ih he
  | opSkip ho hw => exact s_opSkip ho hw
  | opVal ho hw h ih => exact s_opVal ho hw ih
  | opValP ho hw h ih => exact s_opValP ho hw ih
  | valLight ho hk hv => exact s_valLight ho hk hv
  | valCall ho hk hop hc hwk hg ih => exact s_valCall ho hk hop hc hwk ih
  | valYield ho hk hop hc hg ih => exact s_valYield ho hk hop hc ih
  | opPanic ho hw hk hop hv => exact s_opPanic ho hw hk hop hv
  | opDefer ho hw hk hop hc hf => exact s_opDefer ho hw hk hop hc hf
  | opRecover ho hw hop hc hrc => exact s_opRecover ho hw hop hc hrc
  | opRecoverN ho hw hop hc => exact s_opRecoverN ho hw hop hc
  | callBody hf hb h he hu ih ihu =>
    rename_i r
    cases r with
    | code => trivial
    | call o M' rc => exact s_callBody hf hb ih.1 he ihu
  | callPanic hf hb h hu ih ihu =>
    rename_i r
    cases r with
    | code => trivial
    | call o M' rc => exact s_callPanic hf hb ih.1 ihu
  | intr h => exact hI _ _ _ _ _ h
  | unwRet hf hd hr => exact s_unwRet hf hd hr
  | unwPanic hd => exact s_unwPanic hd
  | unwMark hd hm h ih =>
    rename_i q
    cases q with
    | code => trivial
    | call o M' rc => exact s_unwMark hd hm ih
  | unwCall hd hw h h' ih ih' =>
    rename_i r _ _ _ _ _ _ _
    cases r with
    | code => trivial
    | call o M' rc => exact s_unwCall hd hw ih ih'
  | unwCallP hd hw h h' ih ih' =>
    rename_i r _ _ _ _ _ _ _ _
    cases r with
    | code => trivial
    | call o M' rc => exact s_unwCallP hd hw ih ih'
  | roundP hl hn ha hfn hl1 hb hd2 iha ihb => exact s_roundP hl hn hfn iha.1 hl1 ihb.1 hd2
  | round hl hn ha hl1 hb hl2 hj iha ihb => exact s_round hl hn iha.1 hl1 ihb.1 hl2 hj

end Go.Proofs.YtabkcbaknjenmaaAM
