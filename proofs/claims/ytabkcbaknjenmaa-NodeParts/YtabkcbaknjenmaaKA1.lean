/-
  Part KA1 of the proof: merged texts.
-/
import Derived.Calls
import Derived.Laws.Sem
import Derived.Laws.World
import Derived.KernelRfl
import Derived.Laws.Tables
import Derived.Laws.AppendOwn
import Derived.Laws.MakeOwn
import Derived.Laws.Slices
import Derived.Laws.StructEq

/-
  AN ABSTRACT MACHINE OVER THE MODEL, part 1: values, memory, and how they stand for a world's.
-/
set_option linter.unusedVariables false
set_option linter.unusedSimpArgs false
namespace Go.Proofs.YtabkcbaknjenmaaAM
open Go

/-- The capacity of a slice of which no more is known than that it is no less than its length. -/
def capU : Nat := 2 ^ 63

/-- Where an abstract object lies: its block, the first cell, how many cells it may take, cells per element. -/
structure Place where
  block : Nat
  off : Nat
  room : Nat
  unit : Nat

abbrev Rho := Nat → Option Place

def SliceOk (p : Place) (o n c o' c' : Nat) : Prop :=
  (c ≠ capU ∧ c' = c ∧ (0 < c ∨ 0 < n → o' = p.off + o)) ∨ (c = capU ∧ n ≤ c' ∧ o' + c' * p.unit ≤ p.off + p.room ∧ (0 < c' → o' = p.off + o))

inductive VRel (ρ : Rho) : Value → Value → Prop
  | bool (b : Bool) : VRel ρ (.bool b) (.bool b)
  | int (k : IntKind) (n : Int) : VRel ρ (.int k n) (.int k n)
  | string (s : ByteArray) : VRel ρ (.string s) (.string s)
  | ptrN : VRel ρ (.pointer none) (.pointer none)
  | ptr {x o : Nat} {p : Place} (h : ρ x = some p) : VRel ρ (.pointer (some ⟨x, o, none⟩)) (.pointer (some ⟨p.block, p.off + o, none⟩))
  | sliN : VRel ρ (.slice none 0 0) (.slice none 0 0)
  | sli {x o n c o' c' : Nat} {p : Place} (h : ρ x = some p) (hs : SliceOk p o n c o' c') : VRel ρ (.slice (some ⟨x, o, none⟩) n c) (.slice (some ⟨p.block, o', none⟩) n c')
  | mapN : VRel ρ (.map none) (.map none)
  | map {r : Nat} {p : Place} (h : ρ r = some p) : VRel ρ (.map (some r)) (.map (some p.block))
  | fn (f : FuncId) (a a' b b' : Array Value) (ha : a.size = a'.size) (hb : b.size = b'.size)
      (hA : ∀ (i : Nat) v v', a[i]? = some v → a'[i]? = some v' → VRel ρ v v') (hB : ∀ (i : Nat) v v', b[i]? = some v → b'[i]? = some v' → VRel ρ v v') : VRel ρ (.func (.func f) a b) (.func (.func f) a' b')
  | yield {l : Nat} {p : Place} (h : ρ l = some p) : VRel ρ (.func (.yield l) #[] #[]) (.func (.yield p.block) #[] #[])
  | nilFunc : VRel ρ .nilFunc .nilFunc
  | nilIface : VRel ρ .nilIface .nilIface
  | iface (t : TypeId) {v v' : Value} (h : VRel ρ v v') : VRel ρ (.iface t v) (.iface t v')
  | agg (a a' : Array Value) (ha : a.size = a'.size) (hA : ∀ (i : Nat) v v', a[i]? = some v → a'[i]? = some v' → VRel ρ v v') : VRel ρ (.agg a) (.agg a')
  | tuple (a a' : Array Value) (ha : a.size = a'.size) (hA : ∀ (i : Nat) v v', a[i]? = some v → a'[i]? = some v' → VRel ρ v v') : VRel ρ (.tuple a) (.tuple a')

/-- ρ' says what ρ says, and maybe more. -/
def Rho.le (ρ ρ' : Rho) : Prop := ∀ x p, ρ x = some p → ρ' x = some p
theorem Rho.le_refl (ρ : Rho) : Rho.le ρ ρ := fun _ _ h => h
theorem Rho.le_trans {a b c : Rho} (h : Rho.le a b) (k : Rho.le b c) : Rho.le a c := fun x p e => k x p (h x p e)

theorem VRel.mono {ρ ρ' : Rho} (h : Rho.le ρ ρ') {v v' : Value} (r : VRel ρ v v') : VRel ρ' v v' := by
  induction r with
  | bool b => exact .bool b
  | int k n => exact .int k n
  | string s => exact .string s
  | ptrN => exact .ptrN
  | ptr e => exact .ptr (h _ _ e)
  | sliN => exact .sliN
  | sli e hs => exact .sli (h _ _ e) hs
  | mapN => exact .mapN
  | map e => exact .map (h _ _ e)
  | fn f a a' b b' ha hb _ _ iA iB => exact .fn f a a' b b' ha hb iA iB
  | yield e => exact .yield (h _ _ e)
  | nilFunc => exact .nilFunc
  | nilIface => exact .nilIface
  | iface t _ ih => exact .iface t ih
  | agg a a' ha _ iA => exact .agg a a' ha iA
  | tuple a a' ha _ iA => exact .tuple a a' ha iA

/-- Rows of values, side by side. -/
structure LRel (ρ : Rho) (l l' : List Value) : Prop where
  len : l.length = l'.length
  at_ : ∀ (i : Nat) v v', l[i]? = some v → l'[i]? = some v' → VRel ρ v v'

theorem LRel.mono {ρ ρ' : Rho} (h : Rho.le ρ ρ') {l l' : List Value} (r : LRel ρ l l') : LRel ρ' l l' := ⟨r.len, fun i v v' a b => (r.at_ i v v' a b).mono h⟩
theorem LRel.nil (ρ : Rho) : LRel ρ [] [] := ⟨rfl, by simp⟩
theorem LRel.cons {ρ : Rho} {v v' : Value} {l l' : List Value} (h : VRel ρ v v') (r : LRel ρ l l') : LRel ρ (v :: l) (v' :: l') := by
  refine ⟨by simp [r.len], fun i a b ha hb => ?_⟩
  cases i with
  | zero => simp at ha hb; subst ha; subst hb; exact h
  | succ i => simp at ha hb; exact r.at_ i a b ha hb
theorem LRel.append {ρ : Rho} {a a' b b' : List Value} (h : LRel ρ a a') (k : LRel ρ b b') : LRel ρ (a ++ b) (a' ++ b') := by
  refine ⟨by simp [h.len, k.len], fun i v v' hv hv' => ?_⟩
  rw [List.getElem?_append] at hv hv'
  rw [← h.len] at hv'
  split at hv
  · rename_i hi; rw [if_pos hi] at hv'; exact h.at_ i v v' hv hv'
  · rename_i hi; rw [if_neg hi] at hv'; exact k.at_ _ v v' hv hv'
theorem LRel.take {ρ : Rho} {a a' : List Value} (h : LRel ρ a a') (n : Nat) : LRel ρ (a.take n) (a'.take n) := by
  refine ⟨by simp [h.len], fun i v v' hv hv' => ?_⟩
  rw [List.getElem?_take] at hv hv'
  split at hv
  · rename_i hi; rw [if_pos hi] at hv'; exact h.at_ i v v' hv hv'
  · simp at hv
theorem LRel.drop {ρ : Rho} {a a' : List Value} (h : LRel ρ a a') (n : Nat) : LRel ρ (a.drop n) (a'.drop n) := by
  refine ⟨by simp [h.len], fun i v v' hv hv' => ?_⟩
  rw [List.getElem?_drop] at hv hv'
  exact h.at_ _ v v' hv hv'
theorem LRel.set {ρ : Rho} {a a' : List Value} (h : LRel ρ a a') (n : Nat) {v v' : Value} (hv : VRel ρ v v') : LRel ρ (a.set n v) (a'.set n v') := by
  refine ⟨by simp [h.len], fun i x x' hx hx' => ?_⟩
  rw [List.getElem?_set] at hx hx'
  split at hx
  · rename_i hi; rw [if_pos hi] at hx'
    split at hx
    · rename_i hl; rw [if_pos (h.len ▸ hl)] at hx'; simp at hx hx'; subst hx; subst hx'; exact hv
    · simp at hx
  · rename_i hi; rw [if_neg hi] at hx'; exact h.at_ i x x' hx hx'
theorem LRel.getD {ρ : Rho} {a a' : List Value} (h : LRel ρ a a') (n : Nat) {d : Value} (hd : VRel ρ d d) : VRel ρ (a.getD n d) (a'.getD n d) := by
  rw [List.getD_eq_getElem?_getD, List.getD_eq_getElem?_getD]
  cases ha : a[n]? with
  | none =>
    have : a'[n]? = none := by rw [List.getElem?_eq_none_iff] at ha ⊢; rw [← h.len]; exact ha
    simp [this, hd]
  | some v =>
    have hn : n < a'.length := by rw [← h.len]; exact (List.getElem?_eq_some_iff.1 ha).1
    simp [List.getElem?_eq_getElem hn]
    exact h.at_ n _ _ ha (List.getElem?_eq_getElem hn)
theorem LRel.get {ρ : Rho} {a a' : List Value} (h : LRel ρ a a') {n : Nat} {v : Value} (hv : a[n]? = some v) : ∃ v', a'[n]? = some v' ∧ VRel ρ v v' := by
  have hn : n < a'.length := by rw [← h.len]; exact (List.getElem?_eq_some_iff.1 hv).1
  exact ⟨_, List.getElem?_eq_getElem hn, h.at_ n _ _ hv (List.getElem?_eq_getElem hn)⟩
theorem LRel.replicate {ρ : Rho} (n : Nat) {v v' : Value} (h : VRel ρ v v') : LRel ρ (List.replicate n v) (List.replicate n v') := by
  refine ⟨by simp, fun i x x' hx hx' => ?_⟩
  simp [List.getElem?_replicate] at hx hx'
  obtain ⟨_, rfl⟩ := hx; obtain ⟨_, rfl⟩ := hx'; exact h
theorem LRel.map_of {ρ : Rho} {α : Type} {f g : α → Value} : ∀ (l : List α), (∀ x ∈ l, VRel ρ (f x) (g x)) → LRel ρ (l.map f) (l.map g)
  | [], _ => LRel.nil ρ
  | x :: l, h => .cons (h x (by simp)) (map_of l fun y hy => h y (by simp [hy]))

theorem VRel.agg_of {ρ : Rho} {l l' : List Value} (h : LRel ρ l l') : VRel ρ (.agg l.toArray) (.agg l'.toArray) := .agg _ _ (by simp [h.len]) (fun i v v' a b => h.at_ i v v' (by simpa using a) (by simpa using b))
theorem VRel.tuple_of {ρ : Rho} {l l' : List Value} (h : LRel ρ l l') : VRel ρ (.tuple l.toArray) (.tuple l'.toArray) := .tuple _ _ (by simp [h.len]) (fun i v v' a b => h.at_ i v v' (by simpa using a) (by simpa using b))
theorem VRel.agg_inv {ρ : Rho} {a : Array Value} {v' : Value} (h : VRel ρ (.agg a) v') : ∃ a', v' = .agg a' ∧ LRel ρ a.toList a'.toList := by
  cases h with
  | agg _ a' ha hA => exact ⟨a', rfl, by simp [ha], fun i v v' x y => hA i v v' (by simpa using x) (by simpa using y)⟩
theorem VRel.tuple_inv {ρ : Rho} {a : Array Value} {v' : Value} (h : VRel ρ (.tuple a) v') : ∃ a', v' = .tuple a' ∧ LRel ρ a.toList a'.toList := by
  cases h with
  | tuple _ a' ha hA => exact ⟨a', rfl, by simp [ha], fun i v v' x y => hA i v v' (by simpa using x) (by simpa using y)⟩
theorem VRel.fn_of {ρ : Rho} (f : FuncId) {a a' b b' : List Value} (h : LRel ρ a a') (k : LRel ρ b b') : VRel ρ (.func (.func f) a.toArray b.toArray) (.func (.func f) a'.toArray b'.toArray) :=
  .fn f _ _ _ _ (by simp [h.len]) (by simp [k.len]) (fun i v v' a b => h.at_ i v v' (by simpa using a) (by simpa using b)) (fun i v v' a b => k.at_ i v v' (by simpa using a) (by simpa using b))
theorem VRel.fn_inv {ρ : Rho} {f : FuncId} {a b : Array Value} {v' : Value} (h : VRel ρ (.func (.func f) a b) v') : ∃ a' b', v' = .func (.func f) a' b' ∧ LRel ρ a.toList a'.toList ∧ LRel ρ b.toList b'.toList := by
  cases h with
  | fn _ _ a' _ b' ha hb hA hB => exact ⟨a', b', rfl, ⟨by simp [ha], fun i v v' x y => hA i v v' (by simpa using x) (by simpa using y)⟩, ⟨by simp [hb], fun i v v' x y => hB i v v' (by simpa using x) (by simpa using y)⟩⟩
theorem VRel.undef (ρ : Rho) : VRel ρ Go.undef Go.undef := .tuple _ _ rfl (by simp)

/-- The cells of a value, side by side. -/
theorem VRel.cells {ρ : Rho} {v v' : Value} (h : VRel ρ v v') : LRel ρ v.cells.toList v'.cells.toList := by
  cases h with
  | agg a a' ha hA => exact ⟨by simp [Value.cells, ha], fun i v v' x y => hA i v v' (by simpa [Value.cells] using x) (by simpa [Value.cells] using y)⟩
  | bool b => exact .cons (.bool b) (.nil ρ)
  | int k n => exact .cons (.int k n) (.nil ρ)
  | string s => exact .cons (.string s) (.nil ρ)
  | ptrN => exact .cons .ptrN (.nil ρ)
  | ptr e => exact .cons (.ptr e) (.nil ρ)
  | sliN => exact .cons .sliN (.nil ρ)
  | sli e hs => exact .cons (.sli e hs) (.nil ρ)
  | mapN => exact .cons .mapN (.nil ρ)
  | map e => exact .cons (.map e) (.nil ρ)
  | fn f a a' b b' ha hb hA hB => exact .cons (.fn f a a' b b' ha hb hA hB) (.nil ρ)
  | yield e => exact .cons (.yield e) (.nil ρ)
  | nilFunc => exact .cons .nilFunc (.nil ρ)
  | nilIface => exact .cons .nilIface (.nil ρ)
  | iface t h => exact .cons (.iface t h) (.nil ρ)
  | tuple a a' ha hA => exact .cons (.tuple a a' ha hA) (.nil ρ)
theorem VRel.oneCell {ρ : Rho} {v v' : Value} (h : VRel ρ v v') : v'.oneCell' = v.oneCell' := by cases h <;> rfl

/-- A value without addresses, of one cell. -/
def plain1 : Value → Bool
  | .bool _ | .int _ _ | .string _ | .pointer none | .map none | .nilFunc | .nilIface => true
  | .slice none n c => n == 0 && c == 0
  | _ => false
theorem plain1_eq {ρ : Rho} {v v' : Value} (h : plain1 v = true) (r : VRel ρ v v') : v' = v := by
  cases r <;> first | rfl | (simp [plain1] at h)
theorem plain1_refl (ρ : Rho) {v : Value} (h : plain1 v = true) : VRel ρ v v := by
  cases v with
  | bool b => exact .bool b
  | int k n => exact .int k n
  | string s => exact .string s
  | pointer a => cases a with
    | none => exact .ptrN
    | some a => simp [plain1] at h
  | slice a n c => cases a with
    | none => simp [plain1] at h; obtain ⟨rfl, rfl⟩ := h; exact .sliN
    | some a => simp [plain1] at h
  | map r => cases r with
    | none => exact .mapN
    | some a => simp [plain1] at h
  | nilFunc => exact .nilFunc
  | nilIface => exact .nilIface
  | _ => simp [plain1] at h
/-- A constant: no addresses. -/
def plainC : Value → Bool
  | .agg cs => cs.toList.all plain1
  | .tuple cs => cs.toList.all plain1
  | v => plain1 v
theorem all_refl (ρ : Rho) {l : List Value} (h : l.all plain1 = true) : LRel ρ l l := by
  refine ⟨rfl, fun i v v' a b => ?_⟩
  rw [a] at b
  injection b with b
  subst b
  exact plain1_refl ρ (List.all_eq_true.1 h v (List.mem_of_getElem? a))
theorem plainC_refl (ρ : Rho) {v : Value} (h : plainC v = true) : VRel ρ v v := by
  cases v with
  | agg cs => have := VRel.agg_of (all_refl ρ (l := cs.toList) h); simpa using this
  | tuple cs => have := VRel.tuple_of (all_refl ρ (l := cs.toList) h); simpa using this
  | _ => exact plain1_refl ρ h

/-! ### Memory -/
inductive Mode | ro | live | dead
  deriving DecidableEq

inductive AObj where
  | cells (vs : List Value) (u : Nat) (m : Mode)
  | map (es : List (Value × Value))
  | loop (st : LoopState) (pending : Option Code) (fn : FuncId) (tmps : List Value) (params : Array Tmp) (assign body : Code) (df : Nat)
  | defers (taken : Bool)
  | siter (s : ByteArray) (pos : Nat)

abbrev Mem := List AObj

def AObj.writable : AObj → Bool
  | .cells _ _ .live => true
  | .cells _ _ _ => false
  | _ => true
def AObj.alive : AObj → Bool
  | .cells _ _ .dead => false
  | _ => true

def ORel (ρ : Rho) : AObj → Place → World → Prop
  | .cells vs u m, p, w => m = .dead ∨ ∃ cs el fr, w.heap[p.block]? = some (.cells cs el fr) ∧ p.unit = u ∧ p.off + p.room ≤ cs.size ∧ vs.length ≤ p.room ∧
      (∀ i v, vs[i]? = some v → ∃ v', cs[p.off + i]? = some v' ∧ VRel ρ v v') ∧ (m = .live → ∀ i, i < p.room → ¬ (fr.1 ≤ p.off + i ∧ p.off + i < fr.2))
  | .map es, p, w => ∃ es' clock, w.heap[p.block]? = some (.map es' clock) ∧ es.length = es'.size ∧
      (∀ (i : Nat) (e : Value × Value) (e' : MapEntry), es[i]? = some e → es'[i]? = some e' → plain1 e.1 = true ∧ e'.key = e.1 ∧ VRel ρ e.2 e'.val)
  | .loop st pending fn tmps params assign body df, p, w => ∃ tmps' q, w.heap[p.block]? = some (.loop ⟨st, pending, fn, tmps', params, assign, body, q⟩) ∧ LRel ρ tmps tmps'.toList ∧ ∃ pd, ρ df = some pd ∧ pd.block = q
  | .defers taken, p, w => w.heap[p.block]? = some (.deferred (if taken then none else some []))
  | .siter s pos, p, w => p.off = 0 ∧ w.heap[p.block]? = some (.stringIter s pos)

theorem ORel.mono {ρ ρ' : Rho} (h : Rho.le ρ ρ') {o : AObj} {p : Place} {w : World} (r : ORel ρ o p w) : ORel ρ' o p w := by
  cases o with
  | cells vs e m =>
    rcases r with r | ⟨cs, el, fr, a, hu, b, c, d, f⟩
    · exact .inl r
    · exact .inr ⟨cs, el, fr, a, hu, b, c, fun i v hv => let ⟨v', x, y⟩ := d i v hv; ⟨v', x, y.mono h⟩, f⟩
  | map es =>
    obtain ⟨es', clock, a, b, c⟩ := r
    exact ⟨es', clock, a, b, fun i e e' x y => let ⟨q, s, t⟩ := c i e e' x y; ⟨q, s, t.mono h⟩⟩
  | loop st pending fn tmps params assign body df =>
    obtain ⟨tmps', q, a, b, pd, c, d⟩ := r
    exact ⟨tmps', q, a, b.mono h, pd, h _ _ c, d⟩
  | defers t => exact r
  | siter s pos => exact r
/-- An object hangs on its own block alone. -/
theorem ORel.of_block {ρ : Rho} {o : AObj} {p : Place} {w w' : World} (r : ORel ρ o p w) (h : w'.heap[p.block]? = w.heap[p.block]?) : ORel ρ o p w' := by
  cases o with
  | cells vs e m =>
    rcases r with r | r
    · exact .inl r
    · exact .inr (by rw [h]; exact r)
  | map es => simp only [ORel, h] at r ⊢; exact r
  | loop st pending fn tmps params assign body df => simp only [ORel, h] at r ⊢; exact r
  | defers t => simp only [ORel, h] at r ⊢; exact r
  | siter s pos => simp only [ORel, h] at r ⊢; exact r

structure Rel (ρ : Rho) (M : Mem) (w : World) : Prop where
  obj : ∀ x p, ρ x = some p → ∃ o, M[x]? = some o ∧ ORel ρ o p w
  blk : ∀ x p, ρ x = some p → p.block < w.heap.size
  sep : ∀ x y p q o o', ρ x = some p → ρ y = some q → x ≠ y → M[x]? = some o → M[y]? = some o' → o.writable = true → o'.alive = true → p.block ≠ q.block

/-- The block is one that may be written. -/
def Wb (ρ : Rho) (M : Mem) (k : Nat) : Prop := ∃ x p o, ρ x = some p ∧ M[x]? = some o ∧ o.writable = true ∧ p.block = k

/-- The bytes of a block that a string shares. -/
def frzO : Option Obj → Nat × Nat
  | some (.cells _ _ fr) => fr
  | _ => (0, 0)
/-- From (ρ, M, w) to (ρ', M', w'): what has come, what has stayed. -/
structure Ext (ρ : Rho) (M : Mem) (w : World) (ρ' : Rho) (M' : Mem) (w' : World) : Prop where
  rel : Rel ρ' M' w'
  le : Rho.le ρ ρ'
  dom : ∀ x p, ρ' x = some p → (∃ q, ρ x = some q) ∨ (M.length ≤ x ∧ x < M'.length)
  new : ∀ x, M.length ≤ x → x < M'.length → ∃ p, ρ' x = some p
  len : M.length ≤ M'.length
  os : w'.os = w.os
  tape : w'.tape = w.tape
  output : w'.output = w.output
  size : w.heap.size ≤ w'.heap.size
  kept : ∀ k, k < w.heap.size → ¬ Wb ρ M k → w'.heap[k]? = w.heap[k]?
  wb : ∀ k, Wb ρ' M' k → k < w.heap.size → Wb ρ M k
  alive : ∀ x o', (∃ p, ρ x = some p) → M'[x]? = some o' → o'.alive = true → ∃ o, M[x]? = some o ∧ o.alive = true ∧ (o.writable = true → o'.writable = true)
  neww : ∀ x o', M.length ≤ x → M'[x]? = some o' → o'.alive = true → o'.writable = true
  frz : ∀ k : Nat, frzO w'.heap[k]? = frzO w.heap[k]?

theorem Ext.refl {ρ : Rho} {M : Mem} {w : World} (h : Rel ρ M w) : Ext ρ M w ρ M w :=
  ⟨h, Rho.le_refl ρ, fun x p e => .inl ⟨p, e⟩, fun x a b => by omega, Nat.le_refl _, rfl, rfl, rfl, Nat.le_refl _, fun _ _ _ => rfl, fun _ h _ => h, fun x o' _ e a => ⟨o', e, a, id⟩, fun x o' h e _ => by rw [List.getElem?_eq_none h] at e; simp at e, fun _ => rfl⟩
theorem Ext.trans {ρ ρ1 ρ2 : Rho} {M M1 M2 : Mem} {w w1 w2 : World} (h : Ext ρ M w ρ1 M1 w1) (k : Ext ρ1 M1 w1 ρ2 M2 w2) : Ext ρ M w ρ2 M2 w2 where
  rel := k.rel
  le := Rho.le_trans h.le k.le
  dom := fun x p e => by
    rcases k.dom x p e with ⟨q, hq⟩ | ⟨a, b⟩
    · rcases h.dom x q hq with hq | ⟨a, b⟩
      · exact .inl hq
      · exact .inr ⟨a, Nat.lt_of_lt_of_le b k.len⟩
    · exact .inr ⟨Nat.le_trans h.len a, b⟩
  new := fun x a b => by
    rcases Nat.lt_or_ge x M1.length with hx | hx
    · obtain ⟨p, hp⟩ := h.new x a hx; exact ⟨p, k.le _ _ hp⟩
    · exact k.new x hx b
  len := Nat.le_trans h.len k.len
  os := k.os.trans h.os
  tape := k.tape.trans h.tape
  output := k.output.trans h.output
  size := Nat.le_trans h.size k.size
  kept := fun i hi hn => by
    rw [k.kept i (Nat.lt_of_lt_of_le hi h.size) (fun hw => hn (h.wb i hw hi)), h.kept i hi hn]
  wb := fun i hw hi => h.wb i (k.wb i hw (Nat.lt_of_lt_of_le hi h.size)) hi
  alive := fun x o' hp he ha => by
    obtain ⟨p, hp⟩ := hp
    obtain ⟨o1, e1, a1, w1⟩ := k.alive x o' ⟨p, h.le _ _ hp⟩ he ha
    obtain ⟨o2, e2, a2, w2⟩ := h.alive x o1 ⟨p, hp⟩ e1 a1
    exact ⟨o2, e2, a2, fun q => w1 (w2 q)⟩
  neww := fun x o' hx he ha => by
    rcases Nat.lt_or_ge x M1.length with hl | hl
    · obtain ⟨p, hp⟩ := h.new x hx hl
      obtain ⟨o1, e1, a1, w1⟩ := k.alive x o' ⟨p, hp⟩ he ha
      exact w1 (h.neww x o1 hx e1 a1)
    · exact k.neww x o' hl he ha
  frz := fun i => (k.frz i).trans (h.frz i)

end Go.Proofs.YtabkcbaknjenmaaAM

/-
  AN ABSTRACT MACHINE OVER THE MODEL, part 2: reading, writing, making memory.
-/
set_option linter.unusedVariables false
set_option linter.unusedSimpArgs false
namespace Go.Proofs.YtabkcbaknjenmaaAM
open Go

def Rho.put (ρ : Rho) (x : Nat) (p : Place) : Rho := fun y => if y = x then some p else ρ y
theorem Rho.put_same (ρ : Rho) (x : Nat) (p : Place) : ρ.put x p x = some p := by simp [Rho.put]
theorem Rho.put_ne (ρ : Rho) {x y : Nat} (p : Place) (h : y ≠ x) : ρ.put x p y = ρ y := by simp [Rho.put, h]

theorem Rel.lt {ρ : Rho} {M : Mem} {w : World} (h : Rel ρ M w) {x : Nat} {p : Place} (e : ρ x = some p) : x < M.length := by
  obtain ⟨o, ho, _⟩ := h.obj x p e
  exact (List.getElem?_eq_some_iff.1 ho).1
theorem Rel.fresh {ρ : Rho} {M : Mem} {w : World} (h : Rel ρ M w) : ρ M.length = none := by
  cases e : ρ M.length with
  | none => rfl
  | some p => exact absurd (h.lt e) (Nat.lt_irrefl _)
theorem Rel.put_le {ρ : Rho} {M : Mem} {w : World} (h : Rel ρ M w) (p : Place) : Rho.le ρ (ρ.put M.length p) := fun x q e => by
  rw [Rho.put_ne ρ p (Nat.ne_of_lt (h.lt e)), e]

/-- The heap as it was: so is what stands for it. -/
theorem Ext.same {ρ : Rho} {M : Mem} {w w' : World} (h : Rel ρ M w) (hh : w'.heap = w.heap) (ho : w'.os = w.os) (ht : w'.tape = w.tape) (hu : w'.output = w.output) : Ext ρ M w ρ M w' where
  rel := ⟨fun x p e => let ⟨o, a, b⟩ := h.obj x p e; ⟨o, a, b.of_block (by rw [hh])⟩, fun x p e => by rw [hh]; exact h.blk x p e, h.sep⟩
  le := Rho.le_refl ρ
  dom := fun x p e => .inl ⟨p, e⟩
  new := fun x a b => by omega
  len := Nat.le_refl _
  os := ho
  tape := ht
  output := hu
  size := by rw [hh]; exact Nat.le_refl _
  kept := fun k _ _ => by rw [hh]
  wb := fun k h _ => h
  alive := fun x o' _ e a => ⟨o', e, a, id⟩
  neww := fun x o' h e _ => by rw [List.getElem?_eq_none h] at e; simp at e
  frz := fun k => by rw [hh]

/-- One object turns, and its block. -/
theorem Ext.upd {ρ : Rho} {M : Mem} {w w' : World} (h : Rel ρ M w) {x : Nat} {p : Place} {o o' : AObj} (hx : ρ x = some p) (hm : M[x]? = some o) (hw : o.writable = true) (hw' : o'.writable = true)
    (ho : w'.os = w.os) (ht : w'.tape = w.tape) (hu : w'.output = w.output) (hs : w'.heap.size = w.heap.size) (hk : ∀ k, k ≠ p.block → w'.heap[k]? = w.heap[k]?) (hr : ORel ρ o' p w') (hz : frzO w'.heap[p.block]? = frzO w.heap[p.block]?) :
    Ext ρ M w ρ (M.set x o') w' := by
  have hxl : x < M.length := h.lt hx
  have alive_of : ∀ q : AObj, q.writable = true → q.alive = true := by
    intro q hq; cases q with
    | cells vs u m => cases m <;> simp_all [AObj.writable, AObj.alive]
    | _ => rfl
  refine ⟨⟨?_, ?_, ?_⟩, Rho.le_refl ρ, fun y q e => .inl ⟨q, e⟩, fun y a b => by simp at b; omega, by simp, ho, ht, hu, by omega, ?_, ?_, ?_, fun y o2 hy e _ => by rw [List.getElem?_eq_none (by simpa using hy)] at e; simp at e, fun k => by
    by_cases hkp : k = p.block
    · subst hkp; exact hz
    · rw [hk k hkp]⟩
  · intro y q e
    by_cases hy : y = x
    · subst hy
      rw [hx] at e; injection e with e; subst e
      exact ⟨o', by simp [hxl], hr⟩
    · obtain ⟨oy, hoy, ry⟩ := h.obj y q e
      refine ⟨oy, by rw [List.getElem?_set_ne (fun e => hy e.symm)]; exact hoy, ?_⟩
      by_cases ha : oy.alive = true
      · exact ry.of_block (hk _ (fun e' => h.sep x y p q o oy hx e (fun e => hy e.symm) hm hoy hw ha e'.symm))
      · cases oy with
        | cells vs u m => cases m <;> simp [AObj.alive] at ha; exact .inl rfl
        | _ => simp [AObj.alive] at ha
  · intro y q e; rw [hs]; exact h.blk y q e
  · intro y z q r oy oz hy hz hne hoy hoz hwy haz
    have back : ∀ {y : Nat} {oy : AObj}, (M.set x o')[y]? = some oy → (oy.writable = true → ∃ o2, M[y]? = some o2 ∧ o2.writable = true) ∧ (oy.alive = true → ∃ o2, M[y]? = some o2 ∧ o2.alive = true) := by
      intro y oy he
      by_cases hyx : y = x
      · subst hyx; exact ⟨fun _ => ⟨o, hm, hw⟩, fun _ => ⟨o, hm, alive_of o hw⟩⟩
      · rw [List.getElem?_set_ne (fun e => hyx e.symm)] at he
        exact ⟨fun hq => ⟨oy, he, hq⟩, fun hq => ⟨oy, he, hq⟩⟩
    obtain ⟨o1, h1, h2⟩ := (back hoy).1 hwy
    obtain ⟨o3, h3, h4⟩ := (back hoz).2 haz
    exact h.sep y z q r o1 o3 hy hz hne h1 h3 h2 h4
  · intro k hk1 hn
    exact hk k (fun e => hn ⟨x, p, o, hx, hm, hw, e.symm⟩)
  · rintro k ⟨y, q, oy, hy, hoy, hwy, rfl⟩ hlt
    by_cases hyx : y = x
    · subst hyx; rw [hx] at hy; injection hy with hy; subst hy; exact ⟨y, p, o, hx, hm, hw, rfl⟩
    · rw [List.getElem?_set_ne (fun e => hyx e.symm)] at hoy
      exact ⟨y, q, oy, hy, hoy, hwy, rfl⟩
  · intro y oy _ hoy ha
    by_cases hyx : y = x
    · subst hyx
      simp [hxl] at hoy
      subst hoy
      exact ⟨o, hm, alive_of o hw, fun _ => hw'⟩
    · rw [List.getElem?_set_ne (fun e => hyx e.symm)] at hoy
      exact ⟨oy, hoy, ha, id⟩

/-- A new block. -/
theorem Ext.alloc {ρ : Rho} {M : Mem} {w w' : World} (h : Rel ρ M w) {ob : Obj} {o : AObj} {p : Place} (hh : w'.heap = w.heap.push ob) (ho : w'.os = w.os) (ht : w'.tape = w.tape) (hu : w'.output = w.output)
    (hp : p.block = w.heap.size) (hr : ORel (ρ.put M.length p) o p w') (hwr : o.writable = true := by rfl) (hz : frzO (some ob) = (0, 0) := by rfl) : Ext ρ M w (ρ.put M.length p) (M ++ [o]) w' := by
  have hle := h.put_le p
  have old : ∀ k, k < w.heap.size → w'.heap[k]? = w.heap[k]? := fun k hk => by rw [hh, Array.getElem?_push, if_neg (by omega)]
  have part : ∀ {y q}, (ρ.put M.length p) y = some q → (y = M.length ∧ q = p) ∨ (y < M.length ∧ ρ y = some q) := by
    intro y q e
    by_cases hy : y = M.length
    · subst hy; rw [Rho.put_same] at e; injection e with e; exact .inl ⟨rfl, e.symm⟩
    · rw [Rho.put_ne _ _ hy] at e; exact .inr ⟨h.lt e, e⟩
  refine ⟨⟨?_, ?_, ?_⟩, hle, ?_, ?_, by simp, ho, ht, hu, by rw [hh]; simp, fun k hk _ => old k hk, ?_, ?_, ?_, fun k => by
    rw [hh, Array.getElem?_push]
    split
    · rename_i e; subst e; rw [hz]; simp [frzO]
    · rfl⟩
  · intro y q e
    rcases part e with ⟨rfl, rfl⟩ | ⟨hy, e⟩
    · exact ⟨o, by simp, hr⟩
    · obtain ⟨oy, hoy, ry⟩ := h.obj y q e
      exact ⟨oy, by rw [List.getElem?_append_left hy]; exact hoy, (ry.mono hle).of_block (old _ (h.blk y q e))⟩
  · intro y q e
    rw [hh, Array.size_push]
    rcases part e with ⟨rfl, rfl⟩ | ⟨hy, e⟩
    · omega
    · have := h.blk y q e; omega
  · intro y z q r oy oz hy hz hne hoy hoz hwy haz
    rcases part hy with ⟨rfl, rfl⟩ | ⟨hyl, hy1⟩
    · rcases part hz with ⟨rfl, rfl⟩ | ⟨hzl, hz1⟩
      · exact absurd rfl hne
      · have := h.blk z r hz1; omega
    · rw [List.getElem?_append_left hyl] at hoy
      rcases part hz with ⟨rfl, rfl⟩ | ⟨hzl, hz1⟩
      · have := h.blk y q hy1; omega
      · rw [List.getElem?_append_left hzl] at hoz
        exact h.sep y z q r oy oz hy1 hz1 hne hoy hoz hwy haz
  · intro y q e
    rcases part e with ⟨rfl, rfl⟩ | ⟨hy, e⟩
    · exact .inr ⟨Nat.le_refl _, by simp⟩
    · exact .inl ⟨q, e⟩
  · intro y h1 h2
    have : y = M.length := by simp at h2; omega
    subst this; exact ⟨p, Rho.put_same _ _ _⟩
  · rintro k ⟨y, q, oy, hy, hoy, hwy, rfl⟩ hlt
    rcases part hy with ⟨rfl, rfl⟩ | ⟨hyl, hy1⟩
    · omega
    · rw [List.getElem?_append_left hyl] at hoy
      exact ⟨y, q, oy, hy1, hoy, hwy, rfl⟩
  · rintro y oy ⟨q, hq⟩ hoy ha
    rw [List.getElem?_append_left (h.lt hq)] at hoy
    exact ⟨oy, hoy, ha, id⟩
  · intro y oy hy hoy _
    rw [List.getElem?_append_right hy] at hoy
    have : y - M.length = 0 := by
      have := (List.getElem?_eq_some_iff.1 hoy).1
      simp at this; omega
    rw [this] at hoy
    simp at hoy
    subst hoy
    exact hwr

/-- An object is used up: nothing is known of it any more. -/
theorem Ext.kill {ρ : Rho} {M : Mem} {w : World} (h : Rel ρ M w) {x : Nat} (vs : List Value) (u : Nat) : Ext ρ M w ρ (M.set x (.cells vs u .dead)) w := by
  have back : ∀ {y : Nat} {oy : AObj}, (M.set x (.cells vs u .dead))[y]? = some oy → oy.alive = true → y ≠ x ∧ M[y]? = some oy := by
    intro y oy he ha
    by_cases hyx : y = x
    · subst hyx
      rw [List.getElem?_set] at he
      simp at he
      obtain ⟨_, rfl⟩ := he
      simp [AObj.alive] at ha
    · rw [List.getElem?_set_ne (fun e => hyx e.symm)] at he
      exact ⟨hyx, he⟩
  have alive_of : ∀ q : AObj, q.writable = true → q.alive = true := by
    intro q hq; cases q with
    | cells vs u m => cases m <;> simp_all [AObj.writable, AObj.alive]
    | _ => rfl
  refine ⟨⟨?_, h.blk, ?_⟩, Rho.le_refl ρ, fun y q e => .inl ⟨q, e⟩, fun y a b => by simp at b; omega, by simp, rfl, rfl, rfl, Nat.le_refl _, fun _ _ _ => rfl, ?_, fun y oy _ hoy ha => ⟨oy, (back hoy ha).2, ha, id⟩, fun y o2 hy e _ => by rw [List.getElem?_eq_none (by simpa using hy)] at e; simp at e, fun _ => rfl⟩
  · intro y q e
    obtain ⟨oy, hoy, ry⟩ := h.obj y q e
    by_cases hyx : y = x
    · subst hyx; exact ⟨.cells vs u .dead, by simp [h.lt e], .inl rfl⟩
    · exact ⟨oy, by rw [List.getElem?_set_ne (fun e => hyx e.symm)]; exact hoy, ry⟩
  · intro y z q r oy oz hy hz hne hoy hoz hwy haz
    exact h.sep y z q r oy oz hy hz hne (back hoy (alive_of _ hwy)).2 (back hoz haz).2 hwy haz
  · rintro k ⟨y, q, oy, hy, hoy, hwy, rfl⟩ hlt
    exact ⟨y, q, oy, hy, (back hoy (alive_of _ hwy)).2, hwy, rfl⟩

/-- In the used up object's place a new one: its block is written. -/
theorem Ext.move {ρ : Rho} {M : Mem} {w w' : World} (h : Rel ρ M w) {x : Nat} {p q : Place} {vs : List Value} {u : Nat} {o : AObj} (hx : ρ x = some p) (hm : M[x]? = some (.cells vs u .live)) (hq : q.block = p.block)
    (ho : w'.os = w.os) (ht : w'.tape = w.tape) (hu : w'.output = w.output) (hs : w'.heap.size = w.heap.size) (hk : ∀ k, k ≠ p.block → w'.heap[k]? = w.heap[k]?) (hr : ORel (ρ.put M.length q) o q w') (hz : frzO w'.heap[p.block]? = frzO w.heap[p.block]?) (hwr : o.writable = true := by rfl) :
    Ext ρ M w (ρ.put M.length q) (M.set x (.cells vs u .dead) ++ [o]) w' := by
  have hxl : x < M.length := h.lt hx
  have hle := h.put_le q
  have alive_of : ∀ q : AObj, q.writable = true → q.alive = true := by
    intro q hq; cases q with
    | cells vs u m => cases m <;> simp_all [AObj.writable, AObj.alive]
    | _ => rfl
  have part : ∀ {y r}, (ρ.put M.length q) y = some r → (y = M.length ∧ r = q) ∨ (y < M.length ∧ ρ y = some r) := by
    intro y r e
    by_cases hy : y = M.length
    · subst hy; rw [Rho.put_same] at e; injection e with e; exact .inl ⟨rfl, e.symm⟩
    · rw [Rho.put_ne _ _ hy] at e; exact .inr ⟨h.lt e, e⟩
  have low : ∀ {y : Nat}, y < M.length → (M.set x (.cells vs u .dead) ++ [o])[y]? = (M.set x (.cells vs u .dead))[y]? := fun hy => List.getElem?_append_left (by simpa using hy)
  have back : ∀ {y : Nat} {oy : AObj}, y < M.length → (M.set x (.cells vs u .dead) ++ [o])[y]? = some oy → oy.alive = true → y ≠ x ∧ M[y]? = some oy := by
    intro y oy hl he ha
    rw [low hl] at he
    by_cases hyx : y = x
    · subst hyx
      rw [List.getElem?_set] at he
      simp at he
      obtain ⟨_, rfl⟩ := he
      simp [AObj.alive] at ha
    · rw [List.getElem?_set_ne (fun e => hyx e.symm)] at he
      exact ⟨hyx, he⟩
  refine ⟨⟨?_, ?_, ?_⟩, hle, ?_, ?_, by simp, ho, ht, hu, by omega, ?_, ?_, fun y oy ⟨r, hr⟩ hoy ha => ⟨oy, (back (h.lt hr) hoy ha).2, ha, id⟩, ?_, fun k => by
    by_cases hkp : k = p.block
    · subst hkp; exact hz
    · rw [hk k hkp]⟩
  · intro y r e
    rcases part e with ⟨rfl, rfl⟩ | ⟨hy, e⟩
    · refine ⟨o, ?_, hr⟩
      rw [List.getElem?_append_right (by simp)]; simp
    · obtain ⟨oy, hoy, ry⟩ := h.obj y r e
      by_cases hyx : y = x
      · subst hyx; exact ⟨.cells vs u .dead, by rw [low hy]; simp [hy], .inl rfl⟩
      · refine ⟨oy, by rw [low hy, List.getElem?_set_ne (fun e => hyx e.symm)]; exact hoy, ?_⟩
        by_cases ha : oy.alive = true
        · exact (ry.mono hle).of_block (hk _ (fun e' => h.sep x y p r _ oy hx e (fun e => hyx e.symm) hm hoy rfl ha e'.symm))
        · cases oy with
          | cells vs u m => cases m <;> simp [AObj.alive] at ha; exact .inl rfl
          | _ => simp [AObj.alive] at ha
  · intro y r e
    rw [hs]
    rcases part e with ⟨rfl, rfl⟩ | ⟨hy, e⟩
    · rw [hq]; exact h.blk x p hx
    · exact h.blk y r e
  · intro y z r1 r2 oy oz hy hz hne hoy hoz hwy haz
    rcases part hy with ⟨rfl, rfl⟩ | ⟨hyl, hy1⟩
    · rcases part hz with ⟨rfl, rfl⟩ | ⟨hzl, hz1⟩
      · exact absurd rfl hne
      · obtain ⟨hzx, hoz⟩ := back hzl hoz haz
        rw [hq]; exact h.sep x z p r2 _ oz hx hz1 (fun e => hzx e.symm) hm hoz rfl haz
    · obtain ⟨hyx, hoy⟩ := back hyl hoy (alive_of _ hwy)
      rcases part hz with ⟨rfl, rfl⟩ | ⟨hzl, hz1⟩
      · rw [hq]; exact h.sep y x r1 p oy _ hy1 hx hyx hoy hm hwy rfl
      · obtain ⟨hzx, hoz⟩ := back hzl hoz haz
        exact h.sep y z r1 r2 oy oz hy1 hz1 hne hoy hoz hwy haz
  · intro y r e
    rcases part e with ⟨rfl, rfl⟩ | ⟨hy, e⟩
    · exact .inr ⟨Nat.le_refl _, by simp⟩
    · exact .inl ⟨r, e⟩
  · intro y h1 h2
    have : y = M.length := by simp at h2; omega
    subst this; exact ⟨q, Rho.put_same _ _ _⟩
  · intro k hk1 hn
    exact hk k (fun e => hn ⟨x, p, _, hx, hm, rfl, e.symm⟩)
  · rintro k ⟨y, r, oy, hy, hoy, hwy, rfl⟩ hlt
    rcases part hy with ⟨rfl, rfl⟩ | ⟨hyl, hy1⟩
    · exact ⟨x, p, _, hx, hm, rfl, hq.symm⟩
    · obtain ⟨hyx, hoy⟩ := back hyl hoy (alive_of _ hwy)
      exact ⟨y, r, oy, hy1, hoy, hwy, rfl⟩
  · intro y oy hy hoy _
    rw [List.getElem?_append_right (by simpa using hy)] at hoy
    have : y - (M.set x (.cells vs u .dead)).length = 0 := by
      have := (List.getElem?_eq_some_iff.1 hoy).1
      simp at this ⊢; omega
    rw [this] at hoy
    simp at hoy
    subst hoy
    exact hwr

/-! ### Reading cells -/
def rdCells (M : Mem) (x o k : Nat) : Option (List Value) :=
  match M[x]? with
  | some (.cells vs _ m) => if m = .dead ∨ vs.length < o + k then none else some ((vs.drop o).take k)
  | _ => none

theorem addr_add (b o n : Nat) : (⟨b, o, none⟩ : Addr).add n = ⟨b, o + n, none⟩ := by unfold Addr.add; split <;> simp_all

theorem rdCells_cells {ρ : Rho} {M : Mem} {w : World} (h : Rel ρ M w) {x o k : Nat} {p : Place} (hx : ρ x = some p) {l : List Value} (hr : rdCells M x o k = some l) :
    l.length = k ∧ ∀ i v, l[i]? = some v → ∃ v', w.cell? ⟨p.block, p.off + o + i, none⟩ = some v' ∧ VRel ρ v v' := by
  obtain ⟨ob, hm, ro⟩ := h.obj x p hx
  unfold rdCells at hr
  rw [hm] at hr
  cases ob with
  | cells vs u m =>
    simp only at hr
    split at hr
    · simp at hr
    · rename_i hc
      simp only [not_or] at hc
      injection hr with hr; subst hr
      refine ⟨by simp; omega, fun i v hv => ?_⟩
      rcases ro with ro | ⟨cs, el, fr, hb, hu, hsz, hl, hc', _⟩
      · exact absurd ro hc.1
      · rw [List.getElem?_take] at hv
        split at hv
        · rename_i hi
          rw [List.getElem?_drop] at hv
          obtain ⟨v', h1, h2⟩ := hc' _ _ hv
          refine ⟨v', ?_, h2⟩
          simp only [World.cell?, hb]
          simp only [Option.isSome_none, Bool.false_eq_true, if_false]
          rw [Nat.add_assoc]; exact h1
        · simp at hv
  | _ => simp at hr

theorem run_loadCellsFrom (P : Program) (w : World) (b o : Nat) : ∀ (n i : Nat) (acc : Array Value) (l' : List Value), l'.length = n →
    (∀ j v', l'[j]? = some v' → w.cell? ⟨b, o + i + j, none⟩ = some v') → (loadCellsFrom ⟨b, o, none⟩ i n acc).run P w = .ok (acc ++ l'.toArray) w
  | 0, i, acc, l', hl, _ => by
    obtain rfl : l' = [] := List.eq_nil_of_length_eq_zero hl
    simp [loadCellsFrom]
  | n + 1, i, acc, l', hl, hc => by
    cases l' with
    | nil => simp at hl
    | cons v l' =>
      have h0 := hc 0 v rfl
      simp only [Nat.add_zero] at h0
      simp only [loadCellsFrom, Sem.run_bind, run_load, addr_add, h0, Result.andThen_ok]
      rw [run_loadCellsFrom P w b o n (i + 1) (acc.push v) l' (by simpa using hl) (fun j v' hj => by
        have := hc (j + 1) v' (by simpa using hj)
        rw [show o + (i + 1) + j = o + i + (j + 1) by omega]; exact this)]
      simp

theorem LRel.of_choice {ρ : Rho} {l : List Value} {R : Nat → Value → Prop} (h : ∀ i v, l[i]? = some v → ∃ v', R i v' ∧ VRel ρ v v') : ∃ l', LRel ρ l l' ∧ ∀ (i : Nat) v', l'[i]? = some v' → R i v' := by
  induction l generalizing R with
  | nil => exact ⟨[], .nil ρ, by simp⟩
  | cons v l ih =>
    obtain ⟨v', h1, h2⟩ := h 0 v rfl
    obtain ⟨l', h3, h4⟩ := ih (R := fun i => R (i + 1)) (fun i x hx => h (i + 1) x (by simpa using hx))
    refine ⟨v' :: l', .cons h2 h3, fun i x hx => ?_⟩
    cases i with
    | zero => simp at hx; subst hx; exact h1
    | succ i => exact h4 i x (by simpa using hx)

theorem run_rdCells (P : Program) {ρ : Rho} {M : Mem} {w : World} (h : Rel ρ M w) {x o k : Nat} {p : Place} (hx : ρ x = some p) {l : List Value} (hr : rdCells M x o k = some l) :
    ∃ l', LRel ρ l l' ∧ (loadCells ⟨p.block, p.off + o, none⟩ k).run P w = .ok l'.toArray w ∧ ∀ (i : Nat) v', l'[i]? = some v' → w.cell? ⟨p.block, p.off + o + i, none⟩ = some v' := by
  obtain ⟨hl, hc⟩ := rdCells_cells h hx hr
  obtain ⟨l', h1, h2⟩ := LRel.of_choice hc
  refine ⟨l', h1, ?_, h2⟩
  unfold loadCells
  rw [run_loadCellsFrom P w p.block (p.off + o) k 0 #[] l' (by rw [← h1.len, hl]) (fun j v' hj => by simpa using h2 j v' hj)]
  simp

/-! ### Writing cells -/
def wrWorld (w : World) (b : Nat) : Nat → List Value → World
  | _, [] => w
  | o, v :: vs => wrWorld (w.setCell ⟨b, o, none⟩ v) b (o + 1) vs

theorem wrWorld_facts (b : Nat) : ∀ (vs : List Value) (w : World) (o : Nat), (wrWorld w b o vs).os = w.os ∧ (wrWorld w b o vs).tape = w.tape ∧ (wrWorld w b o vs).output = w.output ∧ (wrWorld w b o vs).heap.size = w.heap.size ∧
    (∀ k, k ≠ b → (wrWorld w b o vs).heap[k]? = w.heap[k]?) ∧
    (∀ cs el fr, w.heap[b]? = some (.cells cs el fr) → o + vs.length ≤ cs.size → ∃ cs', (wrWorld w b o vs).heap[b]? = some (.cells cs' el fr) ∧ cs'.size = cs.size ∧ ∀ i, cs'[i]? = if o ≤ i ∧ i < o + vs.length then vs[i - o]? else cs[i]?)
  | [], w, o => ⟨rfl, rfl, rfl, rfl, fun _ _ => rfl, fun cs el fr h hl => ⟨cs, h, rfl, fun i => by rw [if_neg (by simp only [List.length_nil]; omega)]⟩⟩
  | v :: vs, w, o => by
    obtain ⟨h1, h2, h3, h4, h5, h6⟩ := wrWorld_facts b vs (w.setCell ⟨b, o, none⟩ v) (o + 1)
    refine ⟨h1, h2, h3, by rw [wrWorld, h4]; simp, fun k hk => ?_, fun cs el fr h hl => ?_⟩
    · rw [wrWorld, h5 k hk]
      simp only [World.setCell, Array.getElem?_modify]
      rw [if_neg (fun e => hk e.symm)]
    · simp only [List.length_cons] at hl
      obtain ⟨cs', a, c, d⟩ := h6 (cs.setIfInBounds o v) el fr (by simp only [World.setCell, Array.getElem?_modify, h]; simp) (by rw [Array.size_setIfInBounds]; omega)
      refine ⟨cs', by rw [wrWorld]; exact a, by rw [c]; simp, fun i => ?_⟩
      rw [d i]
      simp only [List.length_cons]
      by_cases hi : i = o
      · subst hi
        rw [if_neg (by omega), if_pos (by omega), Array.getElem?_setIfInBounds_self_of_lt (by omega)]
        simp
      · by_cases h7 : o + 1 ≤ i ∧ i < o + 1 + vs.length
        · rw [if_pos h7, if_pos (by omega)]
          rw [show i - o = (i - (o + 1)) + 1 by omega]
          simp
        · rw [if_neg h7, if_neg (by omega)]
          rw [Array.getElem?_setIfInBounds_ne (fun e => hi e.symm)]

theorem run_storeCells (P : Program) : ∀ (vs : List Value) (w : World) (b o i : Nat) (cs : Array Value) (el : TypeId) (fr : Nat × Nat), w.heap[b]? = some (.cells cs el fr) → o + i + vs.length ≤ cs.size →
    (∀ j, j < vs.length → ¬ (fr.1 ≤ o + i + j ∧ o + i + j < fr.2)) → vs.all Value.oneCell' = true → (storeCells ⟨b, o, none⟩ vs i).run P w = .ok () (wrWorld w b (o + i) vs)
  | [], w, b, o, i, cs, el, fr, h, hl, hf, hv => rfl
  | v :: vs, w, b, o, i, cs, el, fr, h, hl, hf, hv => by
    simp only [List.all_cons, Bool.and_eq_true] at hv
    simp only [List.length_cons] at hl hf
    have hc : w.cell? ⟨b, o + i, none⟩ = some (cs[o + i]'(by omega)) := by
      simp only [World.cell?, h]
      simp
    have hz : w.frozen? ⟨b, o + i, none⟩ = false := by
      simp only [World.frozen?, h]
      have := hf 0 (by omega)
      simp at this ⊢
      omega
    simp only [storeCells, Sem.run_bind, addr_add, run_store P w ⟨b, o + i, none⟩ v .plain hv.1, hc, hz, Bool.false_eq_true, if_false, Result.andThen_ok]
    rw [run_storeCells P vs (w.setCell ⟨b, o + i, none⟩ v) b o (i + 1) (cs.setIfInBounds (o + i) v) el fr (by simp only [World.setCell, Array.getElem?_modify, h]; simp) (by rw [Array.size_setIfInBounds]; omega) (fun j hj => by
      have := hf (j + 1) (by omega)
      rw [show o + (i + 1) + j = o + i + (j + 1) by omega]; exact this) hv.2]
    rfl

/-- The list with some elements turned. -/
def splice (vs : List Value) (o : Nat) (new : List Value) : List Value := vs.take o ++ new ++ vs.drop (o + new.length)
theorem splice_length (vs : List Value) (o : Nat) (new : List Value) (h : o + new.length ≤ vs.length) : (splice vs o new).length = vs.length := by simp [splice]; omega
theorem splice_get (vs : List Value) (o : Nat) (new : List Value) (h : o + new.length ≤ vs.length) (i : Nat) : (splice vs o new)[i]? = if o ≤ i ∧ i < o + new.length then new[i - o]? else vs[i]? := by
  unfold splice
  rw [List.append_assoc, List.getElem?_append]
  by_cases h1 : i < o
  · rw [if_pos (by simp; omega), if_neg (by omega), List.getElem?_take, if_pos h1]
  · rw [if_neg (by simp; omega), List.getElem?_append]
    simp only [List.length_take]
    by_cases h2 : i < o + new.length
    · rw [if_pos (by omega), if_pos (by omega)]
      congr 1; omega
    · rw [if_neg (by omega), if_neg (by omega), List.getElem?_drop]
      congr 1; omega

def wrCells (M : Mem) (x o : Nat) (new : List Value) : Option Mem :=
  match M[x]? with
  | some (.cells vs u .live) => if o + new.length ≤ vs.length ∧ new.all Value.oneCell' = true then some (M.set x (.cells (splice vs o new) u .live)) else none
  | _ => none

theorem LRel.oneCell {ρ : Rho} {l l' : List Value} (h : LRel ρ l l') (ho : l.all Value.oneCell' = true) : l'.all Value.oneCell' = true := by
  rw [List.all_eq_true] at ho ⊢
  intro v' hv'
  obtain ⟨i, hi⟩ := List.getElem?_of_mem hv'
  have hil : i < l.length := by rw [h.len]; exact (List.getElem?_eq_some_iff.1 hi).1
  have := h.at_ i _ _ (List.getElem?_eq_getElem hil) hi
  rw [this.oneCell]
  exact ho _ (List.getElem_mem hil)

theorem run_wrCells (P : Program) {ρ : Rho} {M M' : Mem} {w : World} (h : Rel ρ M w) {x o : Nat} {p : Place} (hx : ρ x = some p) {new new' : List Value} (hn : LRel ρ new new') (hr : wrCells M x o new = some M') :
    ∃ w', (storeCells ⟨p.block, p.off + o, none⟩ new').run P w = .ok () w' ∧ Ext ρ M w ρ M' w' := by
  obtain ⟨ob, hm, ro⟩ := h.obj x p hx
  unfold wrCells at hr
  rw [hm] at hr
  cases ob with
  | cells vs u m =>
    cases m with
    | live =>
      simp only at hr
      split at hr
      · rename_i hc
        injection hr with hr; subst hr
        rcases ro with ro | ⟨cs, el, fr, hb, hu, hsz, hl, hcs, hf⟩
        · simp at ro
        · have hlen := hn.len
          obtain ⟨f1, f2, f3, f4, f5, f6⟩ := wrWorld_facts p.block new' w (p.off + o)
          obtain ⟨cs', g1, g2, g3⟩ := f6 cs el fr hb (by omega)
          refine ⟨wrWorld w p.block (p.off + o) new', ?_, ?_⟩
          · have := run_storeCells P new' w p.block (p.off + o) 0 cs el fr hb (by omega) (fun j hj => by
              have := hf rfl (o + j) (by omega)
              rw [show p.off + o + 0 + j = p.off + (o + j) by omega]; exact this) (hn.oneCell hc.2)
            simpa using this
          · refine Ext.upd h hx hm rfl rfl f1 f2 f3 f4 f5 (.inr ⟨cs', el, fr, g1, hu, by omega, by rw [splice_length _ _ _ hc.1]; exact hl, ?_, hf⟩) (by rw [g1, hb]; rfl)
            intro i v hv
            rw [splice_get _ _ _ hc.1] at hv
            rw [g3]
            by_cases h1 : o ≤ i ∧ i < o + new.length
            · rw [if_pos h1] at hv
              rw [if_pos (by omega)]
              obtain ⟨v', a, b⟩ := hn.get hv
              refine ⟨v', ?_, b⟩
              rw [show p.off + i - (p.off + o) = i - o by omega]; exact a
            · rw [if_neg h1] at hv
              rw [if_neg (by omega)]
              exact hcs i v hv
      · simp at hr
    | _ => simp at hr
  | _ => simp at hr

/-- A new row of cells. -/
theorem Ext.newRow {ρ : Rho} {M : Mem} {w w' : World} (h : Rel ρ M w) (el : TypeId) (vs : List Value) (cs : Array Value) (u : Nat) (hv : LRel ρ vs (cs.toList.take vs.length)) (hl : vs.length ≤ cs.size)
    (hh : w'.heap = w.heap.push (.cells cs el)) (ho : w'.os = w.os) (ht : w'.tape = w.tape) (hu : w'.output = w.output) :
    Ext ρ M w (ρ.put M.length ⟨w.heap.size, 0, cs.size, u⟩) (M ++ [.cells vs u .live]) w' := by
  refine Ext.alloc h hh ho ht hu rfl (.inr ⟨cs, el, (0, 0), by rw [hh]; simp, rfl, by simp, hl, fun i v hi => ?_, fun _ i _ => by omega⟩)
  obtain ⟨v', a, b⟩ := hv.get hi
  refine ⟨v', ?_, b.mono (h.put_le _)⟩
  rw [List.getElem?_take] at a
  split at a
  · simpa using a
  · simp at a

end Go.Proofs.YtabkcbaknjenmaaAM

/-
  AN ABSTRACT MACHINE OVER THE MODEL, part 3: the operations.
-/
set_option linter.unusedVariables false
set_option linter.unusedSimpArgs false
namespace Go.Proofs.YtabkcbaknjenmaaAM
open Go

/-! ### Types -/
inductive TK | str | slice | struct | array | ptr | map | func | iface | int | bool | other
  deriving DecidableEq
def tkOf : TypeDesc → TK
  | .string => .str | .slice _ => .slice | .struct _ => .struct | .array _ _ => .array | .pointer _ => .ptr | .map _ _ => .map | .func _ _ _ => .func | .interface _ => .iface | .int _ => .int | .bool => .bool
  | _ => .other
def kindT (P : Program) (t : TypeId) : Option TK := (P.underlying t).map tkOf
def aggK : TK → Bool | .struct | .array => true | _ => false
def sizeT (P : Program) (t : TypeId) : Option Nat := (P.info? t).map (·.size)
def bytesT (P : Program) (t : TypeId) : Option Nat := (P.info? t).map (·.bytes)
def zeroVT (P : Program) (t : TypeId) : Option Value := (P.info? t).bind fun i => i.zero.bind fun z => if z.cells.toList.all plain1 then some z else none
def elemT (P : Program) (t : TypeId) : Option TypeId := (P.underlying t).bind fun | .slice e => some e | _ => none
def arrT (P : Program) (t : TypeId) : Option (Nat × TypeId) := (P.underlying t).bind fun | .array n e => some (n, e) | _ => none
def fieldT (P : Program) (t : TypeId) (f : Nat) : Option (TypeId × Nat) := (P.underlying t).bind fun | .struct fs => fs[f]?.map fun x => (x.type, x.offset) | _ => none
def mapT (P : Program) (t : TypeId) : Option (TypeId × TypeId) := (P.underlying t).bind fun | .map k e => some (k, e) | _ => none

section
variable {P : Program}
theorem plainC_of_cells {z : Value} (h : z.cells.toList.all plain1 = true) : plainC z = true := by
  cases z <;> simp_all [Value.cells, plainC, plain1]
theorem kindT_run {t : TypeId} {k : TK} (h : kindT P t = some k) : ∃ d, P.underlying t = some d ∧ tkOf d = k := by
  unfold kindT at h
  cases hu : P.underlying t with
  | none => simp [hu] at h
  | some d => simp [hu] at h; exact ⟨d, rfl, h⟩
theorem run_isAggT {t : TypeId} {k : TK} (h : kindT P t = some k) (w : World) : (isAgg t).run P w = .ok (aggK k) w := by
  obtain ⟨d, hd, rfl⟩ := kindT_run h
  cases d <;> simp [isAgg, run_underlying hd, tkOf, aggK]
theorem run_sizeT {t : TypeId} {n : Nat} (h : sizeT P t = some n) (w : World) : (sizeOf t).run P w = .ok n w := by
  unfold sizeT at h
  cases hi : P.info? t with
  | none => simp [hi] at h
  | some i => simp [hi] at h; simp [sizeOf, typeInfo, hi, h]
theorem run_zeroVT {t : TypeId} {z : Value} (h : zeroVT P t = some z) (w : World) : (zeroValue t).run P w = .ok z w ∧ z.cells.toList.all plain1 = true := by
  unfold zeroVT at h
  cases hi : P.info? t with
  | none => simp [hi] at h
  | some i =>
    cases hz : i.zero with
    | none => simp [hi, hz] at h
    | some y =>
      simp [hi, hz] at h
      obtain ⟨h1, rfl⟩ := h
      exact ⟨by simp [zeroValue, typeInfo, hi, hz], by simpa using h1⟩
theorem elemT_run {t e : TypeId} (h : elemT P t = some e) : P.underlying t = some (.slice e) := by
  unfold elemT at h
  cases hu : P.underlying t with
  | none => simp [hu] at h
  | some d => cases d <;> simp [hu] at h; rw [h]
theorem arrT_run {t e : TypeId} {n : Nat} (h : arrT P t = some (n, e)) : P.underlying t = some (.array n e) := by
  unfold arrT at h
  cases hu : P.underlying t with
  | none => simp [hu] at h
  | some d => cases d <;> simp [hu] at h; rw [h.1, h.2]
theorem mapT_run {t k e : TypeId} (h : mapT P t = some (k, e)) : P.underlying t = some (.map k e) := by
  unfold mapT at h
  cases hu : P.underlying t with
  | none => simp [hu] at h
  | some d => cases d <;> simp [hu] at h; rw [h.1, h.2]
theorem fieldT_run {t : TypeId} {f : Nat} {ft : TypeId} {off : Nat} (h : fieldT P t f = some (ft, off)) : ∃ fs x, P.underlying t = some (.struct fs) ∧ fs[f]? = some x ∧ x.type = ft ∧ x.offset = off := by
  unfold fieldT at h
  cases hu : P.underlying t with
  | none => simp [hu] at h
  | some d =>
    cases d <;> simp [hu] at h
    rename_i fs
    obtain ⟨x, hx, h1, h2⟩ := h
    exact ⟨fs, x, rfl, hx, h1, h2⟩
end

/-- What a piece of the model's text comes to that asks the program alone. -/
def pureS {α : Type} (P : Program) : Sem α → Option α
  | .pure a => some a
  | .program k => pureS P (k P)
  | _ => none
theorem pureS_run {α : Type} (P : Program) : ∀ (s : Sem α) (a : α), pureS P s = some a → ∀ w, s.run P w = .ok a w
  | .pure a, b, h, w => by simp [pureS] at h; subst h; rfl
  | .program k, b, h, w => by simp only [pureS] at h; exact pureS_run P (k P) b h w
  | .load .., b, h, w => by simp [pureS] at h
  | .store .., b, h, w => by simp [pureS] at h
  | .new .., b, h, w => by simp [pureS] at h
  | .shape .., b, h, w => by simp [pureS] at h
  | .freeze .., b, h, w => by simp [pureS] at h
  | .frozen .., b, h, w => by simp [pureS] at h
  | .getObj .., b, h, w => by simp [pureS] at h
  | .setObj .., b, h, w => by simp [pureS] at h
  | .choose .., b, h, w => by simp [pureS] at h
  | .sys .., b, h, w => by simp [pureS] at h
  | .mark .., b, h, w => by simp [pureS] at h
  | .halt _, b, h, w => by simp [pureS] at h

/-! ### Operands -/
def evA (t : List Value) : Operand → Value
  | .tmp i => t.getD i undef
  | .const v => v
  | .global _ => undef
  | .func f => .func (.func f) #[] #[]
def okX : Operand → Bool
  | .const v => plainC v
  | .global _ => false
  | _ => true
theorem evA_rel {ρ : Rho} {t : List Value} {a : Act} (h : LRel ρ t a.tmps.toList) {x : Operand} (hx : okX x = true) : VRel ρ (evA t x) (a.eval x) := by
  cases x with
  | tmp i =>
    have := h.getD i (VRel.undef ρ)
    simp only [evA, Act.eval]
    rw [Array.getD_eq_getD_getElem?, ← Array.getElem?_toList, ← List.getD_eq_getElem?_getD]
    exact this
  | const v => exact plainC_refl ρ hx
  | global g => simp [okX] at hx
  | func f => exact .fn f _ _ _ _ rfl rfl (by simp) (by simp)

/-! ### Cells of a variable -/
def rdVar (P : Program) (M : Mem) (ty : TypeId) (x o : Nat) : Option Value :=
  (kindT P ty).bind fun k => if aggK k then (sizeT P ty).bind fun n => (rdCells M x o n).map fun l => .agg l.toArray else (rdCells M x o 1).bind fun l => l.head?

theorem run_rdVar (P : Program) {ρ : Rho} {M : Mem} {w : World} (h : Rel ρ M w) {ty : TypeId} {x o : Nat} {p : Place} (hx : ρ x = some p) {v : Value} (hr : rdVar P M ty x o = some v) :
    ∃ v', (loadVar ty ⟨p.block, p.off + o, none⟩).run P w = .ok v' w ∧ VRel ρ v v' := by
  unfold rdVar at hr
  cases hk : kindT P ty with
  | none => simp [hk] at hr
  | some k =>
    simp only [hk, Option.bind_some] at hr
    cases hg : aggK k with
    | true =>
      rw [hg] at hr
      simp only [if_true] at hr
      cases hn : sizeT P ty with
      | none => simp [hn] at hr
      | some n =>
        simp only [hn, Option.bind_some] at hr
        cases hc : rdCells M x o n with
        | none => simp [hc] at hr
        | some l =>
          simp [hc] at hr
          subst hr
          obtain ⟨l', h1, h2, _⟩ := run_rdCells P h hx hc
          refine ⟨.agg l'.toArray, ?_, .agg_of h1⟩
          simp [loadVar, run_isAggT hk, hg, run_sizeT hn, h2]
    | false =>
      rw [hg] at hr
      simp only [Bool.false_eq_true, if_false] at hr
      cases hc : rdCells M x o 1 with
      | none => simp [hc] at hr
      | some l =>
        simp only [hc, Option.bind_some] at hr
        obtain ⟨l', h1, h2, h3⟩ := run_rdCells P h hx hc
        obtain ⟨hl, _⟩ := rdCells_cells h hx hc
        match l, hl, hr with
        | [v0], _, hr =>
          simp at hr
          subst hr
          obtain ⟨v', hv', hrel⟩ := h1.get (n := 0) (v := v0) rfl
          refine ⟨v', ?_, hrel⟩
          have := h3 0 v' hv'
          simp only [Nat.add_zero] at this
          simp [loadVar, run_isAggT hk, hg, this]

/-! ### The operations that call nothing -/
def keep1 : Option Value → Option Value := fun o => o.bind fun v => if plain1 v then some v else none
theorem keep1_some {o : Option Value} {v : Value} (h : keep1 o = some v) : o = some v ∧ plain1 v = true := by
  cases o with
  | none => simp [keep1] at h
  | some u =>
    simp only [keep1, Option.bind_some] at h
    split at h
    · injection h with h; subst h; exact ⟨rfl, ‹_›⟩
    · simp at h

/-- Nil of that kind; not nil, of that kind. -/
def nilV : TK → Value → Bool
  | .slice, .slice none _ _ => true
  | .ptr, .pointer none => true
  | .map, .map none => true
  | .func, .nilFunc => true
  | .iface, .nilIface => true
  | _, _ => false
def someV : TK → Value → Bool
  | .slice, .slice (some _) _ _ => true
  | .ptr, .pointer (some _) => true
  | .map, .map (some _) => true
  | .func, .func _ _ _ => true
  | .iface, .iface _ _ => true
  | _, _ => false
theorem nilV_rel {ρ : Rho} {k : TK} {a a' : Value} (h : nilV k a = true) (ha : VRel ρ a a') : nilV k a' = true := by
  cases ha <;> cases k <;> simp only [nilV, Bool.false_eq_true] at h <;> rfl
theorem someV_rel {ρ : Rho} {k : TK} {a a' : Value} (h : someV k a = true) (ha : VRel ρ a a') : someV k a' = true := by
  cases ha <;> cases k <;> simp only [someV, Bool.false_eq_true] at h <;> rfl
def nilApart (k : TK) (a b : Value) : Bool := (nilV k a && someV k b) || (someV k a && nilV k b)
theorem nilApart_rel {ρ : Rho} {k : TK} {a b a' b' : Value} (h : nilApart k a b = true) (ha : VRel ρ a a') (hb : VRel ρ b b') : nilApart k a' b' = true := by
  simp only [nilApart, Bool.or_eq_true, Bool.and_eq_true] at h ⊢
  rcases h with ⟨h1, h2⟩ | ⟨h1, h2⟩
  · exact .inl ⟨nilV_rel h1 ha, someV_rel h2 hb⟩
  · exact .inr ⟨someV_rel h1 ha, nilV_rel h2 hb⟩
theorem nilV_form {k : TK} {a : Value} (h : nilV k a = true) : (k = .slice ∧ ∃ n c, a = .slice none n c) ∨ (k = .ptr ∧ a = .pointer none) ∨ (k = .map ∧ a = .map none) ∨ (k = .func ∧ a = .nilFunc) ∨ (k = .iface ∧ a = .nilIface) := by
  unfold nilV at h
  split at h <;> simp_all
theorem someV_form {k : TK} {a : Value} (h : someV k a = true) : (k = .slice ∧ ∃ x n c, a = .slice (some x) n c) ∨ (k = .ptr ∧ ∃ x, a = .pointer (some x)) ∨ (k = .map ∧ ∃ x, a = .map (some x)) ∨ (k = .func ∧ ∃ x y z, a = .func x y z) ∨ (k = .iface ∧ ∃ x y, a = .iface x y) := by
  unfold someV at h
  split at h <;> simp_all
theorem run_equalIn_apart (P : Program) {d : TypeDesc} {ty : TypeId} {a b : Value} (hd : P.underlying ty = some d) (h : nilApart (tkOf d) a b = true) (w : World) (n : Nat) : (Op.equalIn (n + 1) ty a b).run P w = .ok false w := by
  have hu := run_underlying hd w
  simp only [nilApart, Bool.or_eq_true, Bool.and_eq_true] at h
  rcases h with ⟨h1, h2⟩ | ⟨h1, h2⟩
  · rcases nilV_form h1 with ⟨hk, n, c, rfl⟩ | ⟨hk, rfl⟩ | ⟨hk, rfl⟩ | ⟨hk, rfl⟩ | ⟨hk, rfl⟩ <;> rw [hk] at h2 <;>
    rcases someV_form h2 with ⟨_, x, n, c, rfl⟩ | ⟨_, x, rfl⟩ | ⟨_, x, rfl⟩ | ⟨_, x, y, z, rfl⟩ | ⟨_, x, y, rfl⟩ <;> (try (simp at *; done)) <;> cases d <;> (try (simp [tkOf] at hk; done)) <;> simp [Op.equalIn, hu]
  · rcases nilV_form h2 with ⟨hk, n, c, rfl⟩ | ⟨hk, rfl⟩ | ⟨hk, rfl⟩ | ⟨hk, rfl⟩ | ⟨hk, rfl⟩ <;> rw [hk] at h1 <;>
    rcases someV_form h1 with ⟨_, x, n, c, rfl⟩ | ⟨_, x, rfl⟩ | ⟨_, x, rfl⟩ | ⟨_, x, y, z, rfl⟩ | ⟨_, x, y, rfl⟩ <;> (try (simp at *; done)) <;> cases d <;> (try (simp [tkOf] at hk; done)) <;> simp [Op.equalIn, hu]
theorem eqGuard_apart {k : TK} {a b : Value} (h : nilApart k a b = true) (op : BinOp) (ty : TypeId) (x y : Operand) : eqGuard op ty x y a b = pure () := by
  unfold eqGuard
  simp only [nilApart, Bool.or_eq_true, Bool.and_eq_true] at h
  rcases h with ⟨h1, h2⟩ | ⟨h1, h2⟩
  · rcases someV_form h2 with ⟨_, x, n, c, rfl⟩ | ⟨_, x, rfl⟩ | ⟨_, x, rfl⟩ | ⟨_, x, y, z, rfl⟩ | ⟨_, x, y, rfl⟩ <;> cases a <;> first | rfl | (cases op <;> rfl)
  · rcases someV_form h1 with ⟨_, x, n, c, rfl⟩ | ⟨_, x, rfl⟩ | ⟨_, x, rfl⟩ | ⟨_, x, y, z, rfl⟩ | ⟨_, x, y, rfl⟩ <;> cases b <;> first | rfl | (cases op <;> rfl)
theorem binOp_apart {k : TK} {a b : Value} (h : nilApart k a b = true) (ty : TypeId) : binOp .eql ty a b = (do pure (.bool (← Op.equal ty a b))) ∧ binOp .neq ty a b = (do pure (.bool (!(← Op.equal ty a b)))) := by
  simp only [nilApart, Bool.or_eq_true, Bool.and_eq_true] at h
  rcases h with ⟨h1, h2⟩ | ⟨h1, h2⟩
  · rcases someV_form h2 with ⟨_, x, n, c, rfl⟩ | ⟨_, x, rfl⟩ | ⟨_, x, rfl⟩ | ⟨_, x, y, z, rfl⟩ | ⟨_, x, y, rfl⟩ <;> cases a <;> exact ⟨rfl, rfl⟩
  · rcases someV_form h1 with ⟨_, x, n, c, rfl⟩ | ⟨_, x, rfl⟩ | ⟨_, x, rfl⟩ | ⟨_, x, y, z, rfl⟩ | ⟨_, x, y, rfl⟩ <;> cases b <;> exact ⟨rfl, rfl⟩
theorem run_nilApart (P : Program) {k : TK} {ty : TypeId} {a b : Value} (hk : kindT P ty = some k) (h : nilApart k a b = true) (w : World) (op : BinOp) (hop : op = .eql ∨ op = .neq) (x y : Operand) :
    ((do eqGuard op ty x y a b; binOp op ty a b) : Sem Value).run P w = .ok (.bool (op == .neq)) w := by
  obtain ⟨d, hd, rfl⟩ := kindT_run hk
  rw [eqGuard_apart h]
  have he : (Op.equal ty a b).run P w = .ok false w := run_equalIn_apart P hd h w 9999
  rcases hop with rfl | rfl
  · simp [(binOp_apart h ty).1, he]
  · simp [(binOp_apart h ty).2, he]

def binA (P : Program) (op : BinOp) (ty : TypeId) (x y : Operand) (a b : Value) : Option Value :=
  if plain1 a && plain1 b then keep1 (pureS P (do eqGuard op ty x y a b; binOp op ty a b))
  else match op, kindT P ty with
    | .eql, some k => if nilApart k a b then some (.bool false) else none
    | .neq, some k => if nilApart k a b then some (.bool true) else none
    | _, _ => none

theorem run_binA (P : Program) {ρ : Rho} {op : BinOp} {ty : TypeId} {x y : Operand} {a b a' b' v : Value} (h : binA P op ty x y a b = some v) (ha : VRel ρ a a') (hb : VRel ρ b b') (w : World) :
    ((do eqGuard op ty x y a' b'; binOp op ty a' b') : Sem Value).run P w = .ok v w ∧ plain1 v = true := by
  unfold binA at h
  split at h
  · rename_i hp
    simp only [Bool.and_eq_true] at hp
    rw [plain1_eq hp.1 ha, plain1_eq hp.2 hb]
    obtain ⟨h1, h2⟩ := keep1_some h
    exact ⟨pureS_run P _ _ h1 w, h2⟩
  · split at h
    · rename_i k hk
      split at h
      · rename_i hn
        injection h with h; subst h
        exact ⟨run_nilApart P hk (nilApart_rel hn ha hb) w .eql (.inl rfl) x y, rfl⟩
      · simp at h
    · rename_i k hk
      split at h
      · rename_i hn
        injection h with h; subst h
        exact ⟨run_nilApart P hk (nilApart_rel hn ha hb) w .neq (.inr rfl) x y, rfl⟩
      · simp at h
    · simp at h

end Go.Proofs.YtabkcbaknjenmaaAM

/-
  AN ABSTRACT MACHINE OVER THE MODEL, part 4: structs, slices, append, copy, maps, strings.
-/
set_option linter.unusedVariables false
set_option linter.unusedSimpArgs false
namespace Go.Proofs.YtabkcbaknjenmaaAM
open Go

/-! ### Struct values and literals -/
theorem fill_rel {ρ : Rho} (place : Nat → Option (Nat × Nat)) : ∀ (parts parts' : List (Nat × Value)) (cells cells' r : Array Value), LRel ρ cells.toList cells'.toList → parts.length = parts'.length →
    (∀ (i : Nat) q q', parts[i]? = some q → parts'[i]? = some q' → q.1 = q'.1 ∧ VRel ρ q.2 q'.2) → Instr.fill place cells parts = some r → ∃ r', Instr.fill place cells' parts' = some r' ∧ LRel ρ r.toList r'.toList
  | [], [], cells, cells', r, hc, _, _, h => by simp [Instr.fill] at h; subst h; exact ⟨cells', rfl, hc⟩
  | [], _ :: _, _, _, _, _, hl, _, _ => by simp at hl
  | _ :: _, [], _, _, _, _, hl, _, _ => by simp at hl
  | (i, v) :: parts, (i', v') :: parts', cells, cells', r, hc, hl, hp, h => by
    obtain ⟨hi, hv⟩ := hp 0 (i, v) (i', v') rfl rfl
    simp only at hi hv
    subst hi
    simp only [Instr.fill] at h ⊢
    have hvc := hv.cells
    have hsz : v'.cells.size = v.cells.size := by have := hvc.len; simpa using this.symm
    have hcs : cells'.size = cells.size := by have := hc.len; simpa using this.symm
    cases hpl : place i with
    | none => simp [hpl] at h
    | some os =>
      obtain ⟨off, size⟩ := os
      simp only [hpl] at h ⊢
      rw [hsz, hcs]
      split at h
      · simp at h
      · rename_i hcond
        rw [if_neg hcond]
        refine fill_rel place parts parts' _ _ r ?_ (by simpa using hl) (fun j q q' a b => hp (j + 1) q q' (by simpa using a) (by simpa using b)) h
        have key : ∀ (l l' : List Value) (k : Nat) (c c' : Array Value), LRel ρ l l' → LRel ρ c.toList c'.toList →
            LRel ρ ((l.zipIdx k).foldl (fun cs x => cs.setIfInBounds (off + x.2) x.1) c).toList ((l'.zipIdx k).foldl (fun cs x => cs.setIfInBounds (off + x.2) x.1) c').toList := by
          intro l
          induction l with
          | nil => intro l' k c c' h1 h2; have : l' = [] := List.eq_nil_of_length_eq_zero (by simpa using h1.len.symm); subst this; simpa using h2
          | cons x l ih =>
            intro l' k c c' h1 h2
            cases l' with
            | nil => exact absurd h1.len (by simp)
            | cons x' l' =>
              simp only [List.zipIdx_cons, List.foldl_cons]
              refine ih l' (k + 1) _ _ ⟨by have := h1.len; simpa using this, fun i a b ha hb => h1.at_ (i + 1) a b (by simpa using ha) (by simpa using hb)⟩ ?_
              rw [Array.toList_setIfInBounds, Array.toList_setIfInBounds]
              exact h2.set _ (h1.at_ 0 x x' rfl rfl)
        have := key v.cells.toList v'.cells.toList 0 cells cells' hvc hc
        simp only [← Array.foldl_toList, Array.toList_zipIdx]
        exact this

def evParts (t : List Value) (parts : Array (Nat × Operand)) : List (Nat × Value) := parts.toList.map fun q => (q.1, evA t q.2)
theorem evParts_rel {ρ : Rho} {t : List Value} {a : Act} (parts : Array (Nat × Operand)) (hx : ∀ q ∈ parts.toList, VRel ρ (evA t q.2) (a.eval q.2)) :
    (evParts t parts).length = ((parts.map fun (i, x) => (i, a.eval x)).toList).length ∧ ∀ (i : Nat) q q', (evParts t parts)[i]? = some q → ((parts.map fun (i, x) => (i, a.eval x)).toList)[i]? = some q' → q.1 = q'.1 ∧ VRel ρ q.2 q'.2 := by
  refine ⟨by simp [evParts], fun i q q' hq hq' => ?_⟩
  simp only [evParts, List.getElem?_map, Array.toList_map] at hq hq'
  cases hp : parts.toList[i]? with
  | none => simp [hp] at hq
  | some r =>
    simp [hp] at hq hq'
    subst hq; subst hq'
    exact ⟨rfl, hx r (List.mem_of_getElem? hp)⟩

/-- 'P.built' with the zero value plain. -/
def builtA (P : Program) (ty : TypeId) (parts : List (Nat × Value)) : Option Value :=
  (zeroVT P ty).bind fun _ => (P.built ty parts).map fun cs => .agg cs

theorem run_builtA (P : Program) {ρ : Rho} {ty : TypeId} {parts : List (Nat × Value)} {parts' : Array (Nat × Value)} {v : Value} (h : builtA P ty parts = some v) (hl : parts.length = parts'.toList.length)
    (hp : ∀ (i : Nat) q q', parts[i]? = some q → parts'.toList[i]? = some q' → q.1 = q'.1 ∧ VRel ρ q.2 q'.2) (w : World) : ∃ v', (Instr.build ty parts').run P w = .ok v' w ∧ VRel ρ v v' := by
  unfold builtA at h
  cases hz : zeroVT P ty with
  | none => simp [hz] at h
  | some z =>
    simp only [hz, Option.bind_some] at h
    have hzz := hz
    unfold zeroVT at hzz
    cases hb : P.built ty parts with
    | none => simp [hb] at h
    | some cs =>
      simp [hb] at h
      subst h
      have fin : ∀ cs', P.built ty parts'.toList = some cs' → LRel ρ cs.toList cs'.toList → ∃ v', (Instr.build ty parts').run P w = .ok v' w ∧ VRel ρ (.agg cs) v' := by
        intro cs' h1 h2
        refine ⟨.agg cs', run_build w ty parts' cs' h1, ?_⟩
        have := VRel.agg_of h2
        simpa using this
      cases hi : P.info? ty with
      | none => simp [hi] at hzz
      | some it =>
        cases hz2 : it.zero with
        | none => simp [hi, hz2] at hzz
        | some z2 =>
          simp [hi, hz2] at hzz
          obtain ⟨hpl, rfl⟩ := hzz
          have hzr : LRel ρ z2.cells.toList z2.cells.toList := all_refl ρ (by simpa using hpl)
          unfold Program.built at hb fin
          cases hu : P.underlying ty with
          | none => simp [hi, hu] at hb
          | some d =>
            cases d <;> simp only [hi, hu, hz2] at hb fin <;> try (simp at hb; done)
            case array n e =>
              cases hie : P.info? e with
              | none => simp [hie] at hb
              | some ie =>
                simp only [hie] at hb fin
                obtain ⟨r', h1, h2⟩ := fill_rel _ parts parts'.toList _ _ cs hzr hl hp hb
                exact fin r' h1 h2
            case struct fields =>
              cases hpl2 : fields.toList.mapM (fun f => (P.info? f.type).map fun i => (f.offset, i.size)) with
              | none => simp [hpl2] at hb
              | some places =>
                simp only [hpl2] at hb fin
                obtain ⟨r', h1, h2⟩ := fill_rel _ parts parts'.toList _ _ cs hzr hl hp hb
                exact fin r' h1 h2

/-- The cells of a slice's literal. -/
def litCells (P : Program) (e : TypeId) (n : Nat) (parts : List (Nat × Value)) : Option (Nat × List Value) :=
  (sizeT P e).bind fun size => if n * size > 2 ^ 24 ∨ n > 2 ^ 24 then none else (zeroVT P e).bind fun z =>
    (Instr.fill (fun i => some (i * size, size)) ((Array.range (n * size)).map ((if n * size = 0 then #[] else z.cells)[· % (if n * size = 0 then #[] else z.cells).size]!)) parts).map fun cs => (size, cs.toList)

theorem capU_big {n : Nat} (h : ¬ n > 2 ^ 24) : n ≠ capU := by unfold capU; omega

theorem run_litCells (P : Program) {ρ : Rho} {M : Mem} {w : World} (hR : Rel ρ M w) {ty e : TypeId} {n size : Nat} {parts : List (Nat × Value)} {parts' : Array (Nat × Value)} {l : List Value} (he : elemT P ty = some e)
    (h : litCells P e n parts = some (size, l)) (hl : parts.length = parts'.toList.length) (hp : ∀ (i : Nat) q q', parts[i]? = some q → parts'.toList[i]? = some q' → q.1 = q'.1 ∧ VRel ρ q.2 q'.2) :
    ∃ v' w' ρ', (Instr.buildSlice ty n parts').run P w = .ok v' w' ∧ VRel ρ' (.slice (some ⟨M.length, 0, none⟩) n n) v' ∧ Ext ρ M w ρ' (M ++ [.cells l size .live]) w' := by
  unfold litCells at h
  cases hs : sizeT P e with
  | none => simp [hs] at h
  | some sz =>
    simp only [hs, Option.bind_some] at h
    split at h
    · simp at h
    · rename_i hsmall'
      have hsmall : ¬ n * sz > 2 ^ 24 := fun h => hsmall' (.inl h)
      have hnU : n ≠ capU := capU_big fun h => hsmall' (.inr h)
      cases hz : zeroVT P e with
      | none => simp [hz] at h
      | some z =>
        simp only [hz, Option.bind_some] at h
        obtain ⟨hzr, hzp⟩ := run_zeroVT hz w
        generalize hzc : (if n * sz = 0 then (#[] : Array Value) else z.cells) = zc at h
        cases hf : Instr.fill (fun i => some (i * sz, sz)) ((Array.range (n * sz)).map (zc[· % zc.size]!)) parts with
        | none => simp [hf] at h
        | some cs =>
          simp [hf] at h
          obtain ⟨rfl, rfl⟩ := h
          have hzz : LRel ρ ((Array.range (n * sz)).map (zc[· % zc.size]!)).toList ((Array.range (n * sz)).map (zc[· % zc.size]!)).toList := by
            refine all_refl ρ ?_
            rw [List.all_eq_true]
            intro x hx
            simp at hx
            obtain ⟨i, hi, rfl⟩ := hx
            have hn0 : n * sz ≠ 0 := by omega
            rw [if_neg hn0] at hzc
            subst hzc
            have hall : ∀ y ∈ z.cells.toList, plain1 y = true := List.all_eq_true.1 hzp
            by_cases hb : i % z.cells.size < z.cells.size
            · rw [getElem!_pos z.cells _ hb]
              exact hall _ (by simp)
            · rw [getElem!_neg z.cells _ hb]; rfl
          obtain ⟨r', h1, h2⟩ := fill_rel _ parts parts'.toList _ _ cs hzz hl hp hf
          have hu := elemT_run he
          refine ⟨.slice (some ⟨w.heap.size, 0, none⟩) n n, w.alloc (.cells r' e), ρ.put M.length ⟨w.heap.size, 0, r'.size, sz⟩, ?_, ?_, ?_⟩
          · have hn1 : ¬ (16777216 < n * sz) := by have h : ¬ (n * sz > 2 ^ 24) := hsmall; simpa using h
            by_cases h0 : n * sz = 0
            · rw [if_pos h0] at hzc
              subst hzc
              have h1' : Instr.fill (fun i => some (i * sz, sz)) ((Array.range (n * sz)).map ((#[] : Array Value)[· % (#[] : Array Value).size]!)) parts'.toList = some r' := h1
              simp only [Instr.buildSlice, Sem.run_bind, run_underlying hu, Result.andThen_ok, run_sizeT hs, if_neg (show ¬ n * sz > 2 ^ 24 by simpa using hn1), if_pos h0, Sem.run_pure, h1']
              rfl
            · rw [if_neg h0] at hzc
              subst hzc
              have h1' : Instr.fill (fun i => some (i * sz, sz)) ((Array.range (n * sz)).map (z.cells[· % z.cells.size]!)) parts'.toList = some r' := h1
              simp only [Instr.buildSlice, Sem.run_bind, run_underlying hu, Result.andThen_ok, run_sizeT hs, if_neg (show ¬ n * sz > 2 ^ 24 by simpa using hn1), if_neg h0, hzr, Sem.run_pure, h1']
              rfl
          · refine .sli (p := ⟨w.heap.size, 0, r'.size, sz⟩) (Rho.put_same _ _ _) ?_
            exact .inl ⟨hnU, rfl, fun _ => by simp⟩
          · refine Ext.newRow hR e cs.toList r' sz ?_ ?_ rfl rfl rfl rfl
            · rw [List.take_of_length_le (by rw [h2.len]; exact Nat.le_refl _)]; exact h2
            · have := h2.len; simp at this ⊢; omega

end Go.Proofs.YtabkcbaknjenmaaAM

/-
  AN ABSTRACT MACHINE OVER THE MODEL, part 5: slices, append, copy.
-/
set_option linter.unusedVariables false
set_option linter.unusedSimpArgs false
namespace Go.Proofs.YtabkcbaknjenmaaAM
open Go

/-- What an operation that calls nothing comes to: its value, the memory behind it. -/
def Does (P : Program) (ρ : Rho) (M : Mem) (w : World) (s : Sem Value) (v : Value) (M' : Mem) : Prop :=
  ∃ v' w' ρ', s.run P w = .ok v' w' ∧ VRel ρ' v v' ∧ Ext ρ M w ρ' M' w'
theorem Does.still {P : Program} {ρ : Rho} {M : Mem} {w : World} {s : Sem Value} {v v' : Value} (hR : Rel ρ M w) (h : s.run P w = .ok v' w) (hv : VRel ρ v v') : Does P ρ M w s v M := ⟨v', w, ρ, h, hv, Ext.refl hR⟩

/-! ### Places of fields and elements -/
def fieldAddrA (P : Program) (ty : TypeId) (x : Value) (f : Nat) : Option Value :=
  (fieldT P ty f).bind fun (ft, off) => (sizeT P ft).bind fun n => if n = 0 then none else match x with
    | .pointer (some ⟨b, o, none⟩) => some (.pointer (some ⟨b, o + off, none⟩))
    | _ => none
theorem fieldAddrA_sound (P : Program) {ρ : Rho} {M : Mem} {w : World} (hR : Rel ρ M w) {ty : TypeId} {x x' v : Value} {f : Nat} (h : fieldAddrA P ty x f = some v) (hx : VRel ρ x x') : Does P ρ M w (Instr.fieldAt ty x' f) v M := by
  unfold fieldAddrA at h
  cases hf : fieldT P ty f with
  | none => simp [hf] at h
  | some q =>
    obtain ⟨ft, off⟩ := q
    simp only [hf, Option.bind_some] at h
    cases hn : sizeT P ft with
    | none => simp [hn] at h
    | some n =>
      simp only [hn, Option.bind_some] at h
      split at h
      · simp at h
      · rename_i hn0
        obtain ⟨fs, fl, h1, h2, h3, h4⟩ := fieldT_run hf
        split at h
        · rename_i b o
          injection h with h; subst h
          cases hx with
          | ptr e =>
            rename_i p
            refine Does.still hR (v' := .pointer (some ⟨p.block, p.off + (o + off), none⟩)) ?_ (.ptr e)
            have hn' : (sizeOf fl.type).run P w = .ok n w := by rw [h3]; exact run_sizeT hn w
            simp [Instr.fieldAt, run_underlying h1, h2, Instr.sureAddr, fieldPlace, hn', hn0, addr_add, h4, Nat.add_assoc]
        · simp at h

def idxA (P : Program) (ty : TypeId) (x i : Value) : Option Value :=
  match x, i with
  | .slice (some ⟨b, o, none⟩) n _, .int _ k => (elemT P ty).bind fun e => (sizeT P e).bind fun size => if 0 ≤ k ∧ k < n then some (.pointer (some ⟨b, o + k.toNat * size, none⟩)) else none
  | .pointer (some ⟨b, o, none⟩), .int _ k => (arrT P ty).bind fun (n, e) => (sizeT P e).bind fun size => if 0 ≤ k ∧ k < n then some (.pointer (some ⟨b, o + k.toNat * size, none⟩)) else none
  | _, _ => none
theorem slice_place {ρ : Rho} {b o n c : Nat} {x' : Value} (hx : VRel ρ (.slice (some ⟨b, o, none⟩) n c) x') : ∃ p o' c', ρ b = some p ∧ x' = .slice (some ⟨p.block, o', none⟩) n c' ∧ SliceOk p o n c o' c' ∧ (0 < n → o' = p.off + o) := by
  cases hx with
  | sli e hs =>
    refine ⟨_, _, _, e, rfl, hs, fun hn => ?_⟩
    rcases hs with ⟨_, _, h⟩ | ⟨_, h1, _, h⟩
    · exact h (.inr hn)
    · exact h (by omega)
theorem idxA_sound (P : Program) {ρ : Rho} {M : Mem} {w : World} (hR : Rel ρ M w) {ty : TypeId} {x x' i i' v : Value} (h : idxA P ty x i = some v) (hx : VRel ρ x x') (hi : VRel ρ i i') : Does P ρ M w (Instr.indexAt ty x' i') v M := by
  unfold idxA at h
  split at h
  · rename_i b o n c kk k
    cases hi with
    | int _ _ =>
      cases he : elemT P ty with
      | none => simp [he] at h
      | some e =>
        simp only [he, Option.bind_some] at h
        cases hs : sizeT P e with
        | none => simp [hs] at h
        | some size =>
          simp only [hs, Option.bind_some] at h
          split at h
          · rename_i hk
            injection h with h; subst h
            obtain ⟨p, o', c', hp, rfl, _, ho⟩ := slice_place hx
            have ho' := ho (by omega)
            subst ho'
            refine Does.still hR (v' := .pointer (some ⟨p.block, p.off + (o + k.toNat * size), none⟩)) ?_ (.ptr hp)
            have hu := elemT_run he
            simp [Instr.indexAt, asIntOf, run_underlying hu, hk.1, hk.2, run_sizeT hs, addr_add, Nat.add_assoc]
          · simp at h
  · rename_i b o kk k
    cases hi with
    | int _ _ =>
      cases he : arrT P ty with
      | none => simp [he] at h
      | some q =>
        obtain ⟨n, e⟩ := q
        simp only [he, Option.bind_some] at h
        cases hs : sizeT P e with
        | none => simp [hs] at h
        | some size =>
          simp only [hs, Option.bind_some] at h
          split at h
          · rename_i hk
            injection h with h; subst h
            cases hx with
            | ptr e1 =>
              rename_i p
              refine Does.still hR (v' := .pointer (some ⟨p.block, p.off + (o + k.toNat * size), none⟩)) ?_ (.ptr e1)
              have hu := arrT_run he
              simp [Instr.indexAt, asIntOf, run_underlying hu, Instr.sureAddr, hk.1, hk.2, run_sizeT hs, addr_add, Nat.add_assoc]
          · simp at h
  · simp at h

/-! ### Slicing -/
def bnd : Option Value → Nat → Option Nat
  | none, d => some d
  | some (.int _ k), _ => if 0 ≤ k then some k.toNat else none
  | _, _ => none
def sliceA (P : Program) (M : Mem) (ty : TypeId) (x : Value) (lo hi mx : Option Value) : Option Value :=
  match x with
  | .string s => if kindT P ty = some .str ∧ mx.isNone then (bnd lo 0).bind fun l => (bnd hi s.size).bind fun h => if l ≤ h ∧ h ≤ s.size then some (.string (s.extract l h)) else none else none
  | .slice none 0 0 => (elemT P ty).bind fun e => (sizeT P e).bind fun _ => (bnd lo 0).bind fun l => (bnd hi 0).bind fun h => (bnd mx 0).bind fun m => if l = 0 ∧ h = 0 ∧ m = 0 then some x else none
  | .slice (some ⟨b, o, none⟩) n c => (elemT P ty).bind fun e => (sizeT P e).bind fun size => (bnd lo 0).bind fun l => (bnd hi n).bind fun h =>
    if c = capU then
      match mx with
      | some mv => (bnd (some mv) 0).bind fun m => if l ≤ h ∧ h ≤ m ∧ m ≤ n ∧ m < capU then some (.slice (some ⟨b, (if m = l then o else o + l * size), none⟩) (h - l) (m - l)) else none
      | none => match M[b]? with
        | some (.cells _ u .live) => if l ≤ h ∧ h ≤ n ∧ u = size then some (.slice (some ⟨b, o + l * size, none⟩) (h - l) capU) else none
        | some (.cells _ u .ro) => if l ≤ h ∧ h ≤ n ∧ u = size then some (.slice (some ⟨b, o + l * size, none⟩) (h - l) capU) else none
        | _ => none
    else (bnd mx c).bind fun m => if l ≤ h ∧ h ≤ m ∧ m ≤ c ∧ m - l ≠ capU then some (.slice (some ⟨b, (if m = l then o else o + l * size), none⟩) (h - l) (m - l)) else none
  | _ => none

theorem bnd_int {ρ : Rho} {v v' : Option Value} {d n : Nat} (h : bnd v d = some n) (hr : ∀ x, v = some x → ∃ x', v' = some x' ∧ VRel ρ x x') (hn : v = none → v' = none) :
    (v = none ∧ v' = none ∧ n = d) ∨ ∃ kk k, v = some (.int kk k) ∧ v' = some (.int kk k) ∧ 0 ≤ k ∧ k.toNat = n := by
  cases v with
  | none => simp [bnd] at h; exact .inl ⟨rfl, hn rfl, h.symm⟩
  | some x =>
    obtain ⟨x', e, hx⟩ := hr x rfl
    cases x <;> simp [bnd] at h
    rename_i kk k
    cases hx
    exact .inr ⟨kk, k, rfl, e, h.1, h.2⟩

/-- What the model's bounds come to. -/
theorem run_bounds (P : Program) (w : World) (isS : Bool) (len cap : Nat) {lo hi mx : Option Value} {l h m : Nat}
    (hl : (lo = none ∧ l = 0) ∨ ∃ kk k, lo = some (.int kk k) ∧ 0 ≤ k ∧ k.toNat = l) (hh : (hi = none ∧ h = len) ∨ ∃ kk k, hi = some (.int kk k) ∧ 0 ≤ k ∧ k.toNat = h)
    (hm : (mx = none ∧ m = cap) ∨ (hi.isSome ∧ ∃ kk k, mx = some (.int kk k) ∧ 0 ≤ k ∧ k.toNat = m)) (h1 : l ≤ h) (h2 : h ≤ m) (h3 : m ≤ cap) :
    (Instr.sliceBounds isS len cap lo hi mx).run P w = .ok (l, h, m) w := by
  rcases hl with ⟨rfl, rfl⟩ | ⟨kl, l, rfl, hl0, rfl⟩ <;> rcases hh with ⟨rfl, rfl⟩ | ⟨kh, h, rfl, hh0, rfl⟩ <;> rcases hm with ⟨rfl, rfl⟩ | ⟨his, km, m, rfl, hm0, rfl⟩
  all_goals try (simp at his; done)
  all_goals simp [Instr.sliceBounds, Instr.sliceBound, asIntOf]
  all_goals (repeat (first | rw [if_pos (by omega)] | (simp only [Result.andThen_ok, Sem.run_bind, Sem.run_pure])))
  all_goals (intro hx; exact absurd (hx (by assumption)) (by omega))

theorem sliceA_sound (P : Program) {ρ : Rho} {M : Mem} {w : World} (hR : Rel ρ M w) {ty : TypeId} {x x' v : Value} {lo hi mx lo' hi' mx' : Option Value} (h : sliceA P M ty x lo hi mx = some v) (hx : VRel ρ x x')
    (hlo : ∀ x, lo = some x → ∃ x', lo' = some x' ∧ VRel ρ x x') (hlo0 : lo = none → lo' = none) (hhi : ∀ x, hi = some x → ∃ x', hi' = some x' ∧ VRel ρ x x') (hhi0 : hi = none → hi' = none)
    (hmx : ∀ x, mx = some x → ∃ x', mx' = some x' ∧ VRel ρ x x') (hmx0 : mx = none → mx' = none) (hmh : mx.isSome → hi.isSome) : Does P ρ M w (Instr.sliceAt ty x' lo' hi' mx') v M := by
  have notArr : ∀ {k}, kindT P ty = some k → k ≠ .array → (Instr.sliceAt ty x' lo' hi' mx').run P w = (Instr.slice ty x' lo' hi' mx').run P w := by
    intro k hk hne
    obtain ⟨d, hd, rfl⟩ := kindT_run hk
    cases d <;> simp [Instr.sliceAt, run_underlying hd, tkOf] at hne ⊢
  have l_of : ∀ {v v' : Option Value} {d n : Nat}, bnd v d = some n → (∀ x, v = some x → ∃ x', v' = some x' ∧ VRel ρ x x') → (v = none → v' = none) → (v' = none ∧ n = d) ∨ ∃ kk k, v' = some (.int kk k) ∧ 0 ≤ k ∧ k.toNat = n := by
    intro v v' d n a b c
    rcases bnd_int a b c with ⟨_, p, q⟩ | ⟨kk, k, _, p, q, r⟩
    · exact .inl ⟨p, q⟩
    · exact .inr ⟨kk, k, p, q, r⟩
  unfold sliceA at h
  split at h
  · rename_i s
    split at h
    · rename_i hk
      cases hl : bnd lo 0 with
      | none => simp [hl] at h
      | some l =>
        simp only [hl, Option.bind_some] at h
        cases hh : bnd hi s.size with
        | none => simp [hh] at h
        | some hb =>
          simp only [hh, Option.bind_some] at h
          split at h
          · rename_i hc
            injection h with h; subst h
            cases hx
            refine Does.still hR (v' := .string (s.extract l hb)) ?_ (.string _)
            rw [notArr hk.1 (by simp)]
            obtain ⟨d, hd, hd2⟩ := kindT_run hk.1
            have hmn : mx' = none := hmx0 (by simpa using hk.2)
            cases d <;> simp [tkOf] at hd2
            have := run_bounds P w false s.size s.size (l_of hl hlo hlo0) (l_of hh hhi hhi0) (.inl ⟨rfl, rfl⟩) hc.1 hc.2 (Nat.le_refl _)
            simp [Instr.slice, run_underlying hd, hmn, this]
          · simp at h
    · simp at h
  · cases he : elemT P ty with
    | none => simp [he] at h
    | some e =>
      simp only [he, Option.bind_some] at h
      cases hs : sizeT P e with
      | none => simp [hs] at h
      | some size =>
        simp only [hs, Option.bind_some] at h
        cases hl : bnd lo 0 with
        | none => simp [hl] at h
        | some l =>
          simp only [hl, Option.bind_some] at h
          cases hh : bnd hi 0 with
          | none => simp [hh] at h
          | some hb =>
            simp only [hh, Option.bind_some] at h
            cases hm : bnd mx 0 with
            | none => simp [hm] at h
            | some m =>
              simp only [hm, Option.bind_some] at h
              split at h
              · rename_i hc
                obtain ⟨rfl, rfl, rfl⟩ := hc
                injection h with h; subst h
                cases hx
                refine Does.still hR (v' := .slice none 0 0) ?_ .sliN
                have hu := elemT_run he
                rw [notArr (k := .slice) (by simp [kindT, hu, tkOf]) (by simp)]
                have hm' : (mx' = none ∧ 0 = 0) ∨ (hi'.isSome ∧ ∃ kk k, mx' = some (.int kk k) ∧ 0 ≤ k ∧ k.toNat = 0) := by
                  rcases bnd_int hm hmx hmx0 with ⟨_, p, q⟩ | ⟨kk, k, e1, p, q, r⟩
                  · exact .inl ⟨p, q⟩
                  · refine .inr ⟨?_, kk, k, p, q, r⟩
                    have := hmh (by simp [e1])
                    cases hi with
                    | none => simp at this
                    | some x => obtain ⟨x', e2, _⟩ := hhi x rfl; simp [e2]
                have := run_bounds P w true 0 0 (l_of hl hlo hlo0) (l_of hh hhi hhi0) hm' (Nat.le_refl _) (Nat.le_refl _) (Nat.le_refl _)
                simp [Instr.slice, run_underlying hu, this, run_sizeT hs]
              · simp at h
  · rename_i b o n c
    cases he : elemT P ty with
    | none => simp [he] at h
    | some e =>
      simp only [he, Option.bind_some] at h
      cases hs : sizeT P e with
      | none => simp [hs] at h
      | some size =>
        simp only [hs, Option.bind_some] at h
        cases hl : bnd lo 0 with
        | none => simp [hl] at h
        | some l =>
          simp only [hl, Option.bind_some] at h
          cases hh : bnd hi n with
          | none => simp [hh] at h
          | some hb =>
            simp only [hh, Option.bind_some] at h
            obtain ⟨p, o', c', hp, rfl, hok, ho⟩ := slice_place hx
            have hu := elemT_run he
            have hna := notArr (k := .slice) (by simp [kindT, hu, tkOf]) (by simp)
            have mform : ∀ {d m : Nat}, bnd mx d = some m → mx.isSome → (hi'.isSome ∧ ∃ kk k, mx' = some (.int kk k) ∧ 0 ≤ k ∧ k.toNat = m) := by
              intro d m hm hsm
              rcases bnd_int hm hmx hmx0 with ⟨e1, _, _⟩ | ⟨kk, k, e1, p, q, r⟩
              · simp [e1] at hsm
              · refine ⟨?_, kk, k, p, q, r⟩
                have := hmh (by simp [e1])
                cases hi with
                | none => simp at this
                | some x => obtain ⟨x', e2, _⟩ := hhi x rfl; simp [e2]
            have fin : ∀ (m : Nat), (Instr.sliceBounds true n c' lo' hi' mx').run P w = .ok (l, hb, m) w → (Instr.sliceAt ty (.slice (some ⟨p.block, o', none⟩) n c') lo' hi' mx').run P w = .ok (.slice (some (if m = l then ⟨p.block, o', none⟩ else ⟨p.block, o' + l * size, none⟩)) (hb - l) (m - l)) w := by
              intro m hbd
              rw [hna]
              simp only [Instr.slice, Sem.run_bind, run_underlying hu, Result.andThen_ok, hbd, run_sizeT hs, Sem.run_pure, Option.map_some, addr_add]
              split <;> rfl
            split at h
            · rename_i hcU
              rcases hok with ⟨hne, _⟩ | ⟨_, hnc, hroom, hoff⟩
              · exact absurd hcU hne
              · split at h
                · rename_i mv
                  cases hm : bnd (some mv) 0 with
                  | none => simp [hm] at h
                  | some m =>
                    simp only [hm, Option.bind_some] at h
                    split at h
                    · rename_i hcnd
                      injection h with h; subst h
                      refine Does.still hR (fin m (run_bounds P w true n c' (l_of hl hlo hlo0) (l_of hh hhi hhi0) (.inr (mform hm rfl)) hcnd.1 hcnd.2.1 (by omega))) ?_
                      by_cases hml : m = l
                      · rw [if_pos hml, if_pos hml]
                        refine .sli hp (.inl ⟨by omega, rfl, fun h => ?_⟩)
                        omega
                      · rw [if_neg hml, if_neg hml]
                        refine .sli hp (.inl ⟨by omega, rfl, fun _ => ?_⟩)
                        rw [hoff (by omega), Nat.add_assoc]
                    · simp at h
                · have key : ∀ u, l ≤ hb ∧ hb ≤ n ∧ u = size → p.unit = u → Does P ρ M w (Instr.sliceAt ty (.slice (some ⟨p.block, o', none⟩) n c') lo' hi' mx') (.slice (some ⟨b, o + l * size, none⟩) (hb - l) capU) M := by
                    rintro u ⟨h1, h2, rfl⟩ hpu
                    have hmn := hmx0 rfl
                    refine Does.still hR (fin c' (run_bounds P w true n c' (l_of hl hlo hlo0) (l_of hh hhi hhi0) (.inl ⟨hmn, rfl⟩) h1 (by omega) (Nat.le_refl _))) ?_
                    by_cases hml : c' = l
                    · rw [if_pos hml]
                      refine .sli hp (.inr ⟨rfl, by omega, ?_, fun h => by omega⟩)
                      subst hml
                      simp only [Nat.sub_self, Nat.zero_mul]
                      have : 0 ≤ c' * p.unit := Nat.zero_le _
                      omega
                    · rw [if_neg hml]
                      refine .sli hp (.inr ⟨rfl, by omega, ?_, fun _ => by rw [hoff (by omega), Nat.add_assoc]⟩)
                      rw [hpu]
                      rw [hpu] at hroom
                      have e1 : l * u + (c' - l) * u = c' * u := by rw [← Nat.add_mul]; congr 1; omega
                      omega
                  obtain ⟨ob, hob, hor⟩ := hR.obj b p hp
                  split at h
                  · rename_i vs u hM
                    split at h
                    · rename_i hcnd
                      injection h with h; subst h
                      rw [hob] at hM; injection hM with hM; subst hM
                      rcases hor with hd | ⟨_, _, _, _, hu2, _⟩
                      · simp at hd
                      · exact key u hcnd hu2
                    · simp at h
                  · rename_i vs u hM
                    split at h
                    · rename_i hcnd
                      injection h with h; subst h
                      rw [hob] at hM; injection hM with hM; subst hM
                      rcases hor with hd | ⟨_, _, _, _, hu2, _⟩
                      · simp at hd
                      · exact key u hcnd hu2
                    · simp at h
                  · simp at h
            · rename_i hcU
              rcases hok with ⟨_, rfl, hoff⟩ | ⟨he', _⟩
              · cases hm : bnd mx c' with
                | none => simp [hm] at h
                | some m =>
                  simp only [hm, Option.bind_some] at h
                  split at h
                  · rename_i hcnd
                    injection h with h; subst h
                    have hm' : (mx' = none ∧ m = c') ∨ (hi'.isSome ∧ ∃ kk k, mx' = some (.int kk k) ∧ 0 ≤ k ∧ k.toNat = m) := by
                      cases hmx2 : mx with
                      | none =>
                        rw [hmx2] at hm; simp [bnd] at hm
                        exact .inl ⟨hmx0 hmx2, hm.symm⟩
                      | some y => exact .inr (mform hm (by simp [hmx2]))
                    refine Does.still hR (fin m (run_bounds P w true n c' (l_of hl hlo hlo0) (l_of hh hhi hhi0) hm' hcnd.1 hcnd.2.1 hcnd.2.2.1)) ?_
                    by_cases hml : m = l
                    · rw [if_pos hml, if_pos hml]
                      refine .sli hp (.inl ⟨hcnd.2.2.2, rfl, fun h => ?_⟩)
                      omega
                    · rw [if_neg hml, if_neg hml]
                      refine .sli hp (.inl ⟨hcnd.2.2.2, rfl, fun _ => ?_⟩)
                      rw [hoff (by omega), Nat.add_assoc]
                  · simp at h
              · exact absurd he' hcU
  · simp at h

end Go.Proofs.YtabkcbaknjenmaaAM

/-
  AN ABSTRACT MACHINE OVER THE MODEL, part 6: make, append, copy, len, maps, ranges over strings.
-/
set_option linter.unusedVariables false
set_option linter.unusedSimpArgs false
namespace Go.Proofs.YtabkcbaknjenmaaAM
open Go

/-! ### make([]T, n, c) -/
def makeA (P : Program) (M : Mem) (ty : TypeId) (l c : Value) : Option (Value × Mem) :=
  match l, c with
  | .int _ a, .int _ b => (elemT P ty).bind fun e => (sizeT P e).bind fun size => (bytesT P e).bind fun bytes => (zeroVT P e).bind fun z =>
    if 0 ≤ a ∧ a ≤ b ∧ (bytes : Int) * b ≤ 281474976710656 ∧ b ≤ 4611686018427387904 ∧ z.cells.size = size then some (.slice (some ⟨M.length, 0, none⟩) a.toNat b.toNat, M ++ [.cells (madeCells z.cells (b.toNat * size)).toList size .live]) else none
  | _, _ => none
theorem madeCells_plain {z : Array Value} (h : z.toList.all plain1 = true) (n : Nat) : (madeCells z n).toList.all plain1 = true := by
  rw [List.all_eq_true]
  intro x hx
  simp [madeCells] at hx
  obtain ⟨i, _, rfl⟩ := hx
  by_cases hb : i % z.size < z.size
  · rw [getElem!_pos z _ hb]
    exact List.all_eq_true.1 h _ (by simp)
  · rw [getElem!_neg z _ hb]; rfl
theorem makeA_sound (P : Program) {ρ : Rho} {M M' : Mem} {w : World} (hR : Rel ρ M w) {ty : TypeId} {l c l' c' v : Value} (h : makeA P M ty l c = some (v, M')) (hl : VRel ρ l l') (hc : VRel ρ c c') : Does P ρ M w (Instr.makeSlice ty l' c') v M' := by
  unfold makeA at h
  split at h
  · rename_i k1 a k2 b
    cases hl; cases hc
    cases he : elemT P ty with
    | none => simp [he] at h
    | some e =>
      simp only [he, Option.bind_some] at h
      cases hs : sizeT P e with
      | none => simp [hs] at h
      | some size =>
        simp only [hs, Option.bind_some] at h
        cases hb : bytesT P e with
        | none => simp [hb] at h
        | some bytes =>
          simp only [hb, Option.bind_some] at h
          cases hz : zeroVT P e with
          | none => simp [hz] at h
          | some z =>
            simp only [hz, Option.bind_some] at h
            split at h
            · rename_i hcnd
              injection h with h; injection h with h1 h2; subst h1; subst h2
              obtain ⟨h1, h2, h3, h4, h5⟩ := hcnd
              have hu := elemT_run he
              obtain ⟨i, hi⟩ : ∃ i, P.info? e = some i := by
                unfold sizeT at hs
                cases hi : P.info? e with
                | none => simp [hi] at hs
                | some i => exact ⟨i, rfl⟩
              have hsz : i.size = size := by simpa [sizeT, hi] using hs
              have hby : i.bytes = bytes := by simpa [bytesT, hi] using hb
              have hzz : i.zero = some z ∧ z.cells.toList.all plain1 = true := by
                have := hz
                unfold zeroVT at this
                simp only [hi, Option.bind_some] at this
                cases hiz : i.zero with
                | none => simp [hiz] at this
                | some y =>
                  simp only [hiz, Option.bind_some] at this
                  split at this
                  · rename_i hp; injection this with this; subst this; exact ⟨rfl, hp⟩
                  · simp at this
              have hrun := run_make (P := P) w ty e i z hu hi hzz.1 k1 k2 a b h1 h2 (by rw [hby]; exact h3) (by omega)
              rw [hsz] at hrun
              have hcu : b.toNat ≠ capU := by unfold capU; omega
              refine ⟨_, _, ρ.put M.length ⟨w.heap.size, 0, (madeCells z.cells (b.toNat * size)).size, size⟩, hrun, ?_, ?_⟩
              · exact .sli (p := ⟨w.heap.size, 0, (madeCells z.cells (b.toNat * size)).size, size⟩) (Rho.put_same _ _ _) (.inl ⟨hcu, rfl, fun _ => by simp⟩)
              · refine Ext.newRow hR e _ (madeCells z.cells (b.toNat * size)) size ?_ (by simp) rfl rfl rfl rfl
                rw [List.take_of_length_le (by simp)]
                exact all_refl ρ (madeCells_plain hzz.2 _)
            · simp at h
  · simp at h

/-! ### What is appended, copied -/
/-- How many elements, and their cells. -/
def srcA (P : Program) (M : Mem) (size : Nat) (x : Value) : Option (Nat × List Value) :=
  match x with
  | .slice (some ⟨b, o, none⟩) n _ => (rdCells M b o (n * size)).map fun l => (n, l)
  | .slice none 0 0 => some (0, [])
  | .string s => if size = 1 then some (s.size, s.data.toList.map fun b => .int .u8 b.toNat) else none
  | _ => none
theorem srcA_len {P : Program} {ρ : Rho} {M : Mem} {w : World} (hR : Rel ρ M w) {size n : Nat} {x x' : Value} {l : List Value} (h : srcA P M size x = some (n, l)) (hx : VRel ρ x x') : l.length = n * size := by
  unfold srcA at h
  split at h
  · rename_i b o k c
    cases hr : rdCells M b o (k * size) with
    | none => simp [hr] at h
    | some l2 =>
      simp [hr] at h
      obtain ⟨rfl, rfl⟩ := h
      obtain ⟨p, _, _, hp, _⟩ := slice_place hx
      exact (rdCells_cells hR hp hr).1
  · simp at h; obtain ⟨rfl, rfl⟩ := h; simp
  · split at h
    · rename_i hs
      simp at h; obtain ⟨rfl, rfl⟩ := h; simp [hs]
    · simp at h
  · simp at h
theorem rdCells_zero {M : Mem} {b o : Nat} {l : List Value} (h : rdCells M b o 0 = some l) : l = [] := by
  unfold rdCells at h
  split at h
  · split at h
    · simp at h
    · simp at h; exact h
  · simp at h
theorem run_srcA (P : Program) {ρ : Rho} {M : Mem} {w : World} (hR : Rel ρ M w) {size n : Nat} {x x' : Value} {l : List Value} (h : srcA P M size x = some (n, l)) (hx : VRel ρ x x') :
    ∃ l', LRel ρ l l' ∧ (∀ w, (Builtin.lenOf x').run P w = .ok n w) ∧ (∀ w2, w2.heap = w.heap → (Builtin.firstCells size n x').run P w2 = .ok l'.toArray w2) := by
  unfold srcA at h
  split at h
  · rename_i b o k c
    cases hr : rdCells M b o (k * size) with
    | none => simp [hr] at h
    | some l2 =>
      simp [hr] at h
      obtain ⟨rfl, rfl⟩ := h
      obtain ⟨p, o', c', hp, rfl, hok, ho⟩ := slice_place hx
      obtain ⟨l', h1, h2, h3⟩ := run_rdCells P hR hp hr
      refine ⟨l', h1, fun w => by simp [Builtin.lenOf], fun w2 hw2 => ?_⟩
      have hll := (rdCells_cells hR hp hr).1
      by_cases hk : k * size = 0
      · have hl0 : l' = [] := List.eq_nil_of_length_eq_zero (by rw [← h1.len, hll, hk])
        subst hl0
        simp [Builtin.firstCells, hk, loadCells, loadCellsFrom]
      · have hk0 : 0 < k := by
          rcases Nat.eq_zero_or_pos k with h | h
          · subst h; simp at hk
          · exact h
        rw [ho hk0]
        refine run_firstCells_some w2 size k _ k c' l' (by rw [← h1.len, hll]) (fun j v hj => ?_)
        rw [addr_add]
        have := h3 j v hj
        simp only [World.cell?, hw2] at this ⊢
        exact this
  · simp at h
    obtain ⟨rfl, rfl⟩ := h
    cases hx
    exact ⟨[], .nil ρ, fun w => by simp [Builtin.lenOf], fun w2 _ => by simp [Builtin.firstCells]⟩
  · rename_i s
    split at h
    · simp at h
      obtain ⟨rfl, rfl⟩ := h
      cases hx
      refine ⟨_, LRel.map_of (f := fun b : UInt8 => Value.int .u8 b.toNat) (g := fun b : UInt8 => Value.int .u8 b.toNat) s.data.toList (fun b _ => .int _ _), fun w => by simp [Builtin.lenOf], fun w2 _ => ?_⟩
      simp only [Builtin.firstCells, Sem.run_pure]
      congr 1
      apply Array.ext'
      have : s.extract 0 s.size = s := by simp
      rw [this]
      simp
    · simp at h
  · simp at h

/-! ### append -/
def room47 (n bytes : Nat) : Bool := decide (n * bytes ≤ 140737488355328)
def appendA (P : Program) (M : Mem) (ty xty : TypeId) (s x : Value) : Option (Value × Mem) :=
  (elemT P ty).bind fun e => (sizeT P e).bind fun size => (bytesT P e).bind fun bytes => (zeroVT P e).bind fun z => (kindT P xty).bind fun xk =>
  if (xk ≠ .slice ∧ xk ≠ .str) ∨ size = 0 ∨ z.cells.size ≠ size then none else
  (srcA P M size x).bind fun (m, new) =>
  match s with
  | .slice base n c =>
    if m = 0 then (if c ≠ capU → n ≤ c then (match base with | none => some (s, M) | some ⟨_, _, none⟩ => some (s, M) | _ => none) else none)
    else if c ≠ capU ∧ n + m ≤ c then
      match base with
      | some ⟨b, o, none⟩ => (wrCells M b (o + n * size) new).map fun M' => (.slice base (n + m) c, M')
      | _ => none
    else if room47 (n + m) bytes = false ∨ n + m > 4611686018427387904 then none
    else if c ≠ capU then
      match base with
      | none => if n = 0 ∧ c = 0 then some (.slice (some ⟨M.length, 0, none⟩) (n + m) capU, M ++ [.cells new size .live]) else none
      | some ⟨b, o, none⟩ => (rdCells M b o (n * size)).map fun old => (.slice (some ⟨M.length, 0, none⟩) (n + m) capU, M ++ [.cells (old ++ new) size .live])
      | _ => none
    else
      match base with
      | some ⟨b, o, none⟩ =>
        match M[b]? with
        | some (.cells vs u .live) => if u = size ∧ new.all Value.oneCell' = true then (rdCells M b o (n * size)).map fun old => (.slice (some ⟨M.length, 0, none⟩) (n + m) capU, M.set b (.cells vs u .dead) ++ [.cells (old ++ new) size .live]) else none
        | _ => none
      | _ => none
  | _ => none

theorem zeroCells_size (z : Array Value) (n : Nat) : (Builtin.zeroCells z n).size = n * z.size := by simp [Builtin.zeroCells]

/-- The model's append where it grows. -/
theorem run_append_grows (P : Program) (w : World) (ty xty e : TypeId) (i : TypeInfo) (z : Value) (ht : P.underlying ty = some (.slice e)) (hi : P.info? e = some i) (hz : i.zero = some z) (hxt : P.underlying xty = some .string ∨ ∃ e', P.underlying xty = some (.slice e'))
    (base : Option Addr) (n c m : Nat) (x : Value) (old new : List Value) (hlen : ∀ w, (Builtin.lenOf x).run P w = .ok m w) (hnew : ∀ w2, w2.heap = w.heap → (Builtin.firstCells i.size m x).run P w2 = .ok new.toArray w2)
    (hold : ∀ w2, w2.heap = w.heap → (Builtin.firstCells i.size n (.slice base n c)).run P w2 = .ok old.toArray w2) (hg : c < n + m) (h63 : n + m ≤ 4611686018427387904) (hfit : (n + m) * i.bytes ≤ 140737488355328) :
    (Builtin.append_ #[ty, xty] ty #[.slice base n c, x]).run P w = .ok (.slice (some ⟨w.heap.size, 0, none⟩) (n + m) (grownCap w (n + m) c e))
      (w.drew.alloc (.cells (old.toArray ++ new.toArray ++ Builtin.zeroCells z.cells (grownCap w (n + m) c e - (n + m))) e)) := by
  have hn : ¬ (n + m ≤ c) := by omega
  have h63' : ¬ (9223372036854775807 < ((n : Int) + (m : Int))) := by omega
  have h48' : ¬ (281474976710656 < Builtin.nextslicecap (n + m) c * i.bytes) := by have := growslice_fits hg hfit; omega
  have hf := hnew w.drew rfl
  have hfo := hold w.drew rfl
  rcases hxt with hxt | ⟨e', hxt⟩
  all_goals
    have hxu := run_underlying hxt w
    simp [Builtin.append_, run_underlying ht, hxu, sizeOf, typeInfo, zeroValue, hi, hz, hlen, hn, h63', h48', Question.forced, hf, hfo, newRow, grownCap]
    congr 2
    apply Array.ext'
    simp [List.append_assoc]

theorem run_append_fits (P : Program) (w : World) (ty xty e : TypeId) (i : TypeInfo) (ht : P.underlying ty = some (.slice e)) (hi : P.info? e = some i) (hxt : P.underlying xty = some .string ∨ ∃ e', P.underlying xty = some (.slice e'))
    (base : Option Addr) (n c m : Nat) (x : Value) (new : List Value) (hlen : ∀ w, (Builtin.lenOf x).run P w = .ok m w) (hnew : ∀ w2, w2.heap = w.heap → (Builtin.firstCells i.size m x).run P w2 = .ok new.toArray w2)
    (hg : n + m ≤ c) (w' : World) (hst : ∀ a, base = some a → (storeCells (a.add (n * i.size)) new).run P w = .ok () w') (h0 : base = none → w' = w) :
    (Builtin.append_ #[ty, xty] ty #[.slice base n c, x]).run P w = .ok (.slice base (n + m) c) w' := by
  have hf := hnew w rfl
  cases base with
  | none =>
    obtain rfl := h0 rfl
    rcases hxt with hxt | ⟨e', hxt⟩
    all_goals
      have hxu := run_underlying hxt w'
      simp [Builtin.append_, run_underlying ht, hxu, sizeOf, typeInfo, hi, hlen, hg, hf]
  | some a =>
    have hs := hst a rfl
    rcases hxt with hxt | ⟨e', hxt⟩
    all_goals
      have hxu := run_underlying hxt w
      simp [Builtin.append_, run_underlying ht, hxu, sizeOf, typeInfo, hi, hlen, hg, hf, hs]

theorem appendA_sound (P : Program) {ρ : Rho} {M M' : Mem} {w : World} (hR : Rel ρ M w) {ty xty : TypeId} {s x s' x' v : Value} (h : appendA P M ty xty s x = some (v, M')) (hs : VRel ρ s s') (hx : VRel ρ x x') :
    Does P ρ M w (Builtin.append_ #[ty, xty] ty #[s', x']) v M' := by
  unfold appendA at h
  cases he : elemT P ty with
  | none => simp [he] at h
  | some e =>
  simp only [he, Option.bind_some] at h
  cases hsz : sizeT P e with
  | none => simp [hsz] at h
  | some size =>
  simp only [hsz, Option.bind_some] at h
  cases hb : bytesT P e with
  | none => simp [hb] at h
  | some bytes =>
  simp only [hb, Option.bind_some] at h
  cases hz : zeroVT P e with
  | none => simp [hz] at h
  | some z =>
  simp only [hz, Option.bind_some] at h
  cases hxk : kindT P xty with
  | none => simp [hxk] at h
  | some xk =>
  simp only [hxk, Option.bind_some] at h
  split at h
  · simp at h
  rename_i hcnd
  obtain ⟨hni, hsz0, hzs⟩ : (xk = .slice ∨ xk = .str) ∧ size ≠ 0 ∧ z.cells.size = size := by
    refine ⟨?_, fun h => hcnd (.inr (.inl h)), Decidable.byContradiction fun h => hcnd (.inr (.inr h))⟩
    rcases Decidable.em (xk = .slice) with h | h
    · exact .inl h
    · exact .inr (Decidable.byContradiction fun h2 => hcnd (.inl ⟨h, h2⟩))
  cases hsrc : srcA P M size x with
  | none => simp [hsrc] at h
  | some q =>
  obtain ⟨m, new⟩ := q
  simp only [hsrc, Option.bind_some] at h
  obtain ⟨new', hn1, hn2, hn3⟩ := run_srcA P hR hsrc hx
  have hnl := srcA_len hR hsrc hx
  obtain ⟨i, hi⟩ : ∃ i, P.info? e = some i := by
    unfold sizeT at hsz
    cases hi : P.info? e with
    | none => simp [hi] at hsz
    | some i => exact ⟨i, rfl⟩
  have hsize : i.size = size := by simpa [sizeT, hi] using hsz
  have hby : i.bytes = bytes := by simpa [bytesT, hi] using hb
  have hzz : i.zero = some z := by
    have := hz
    unfold zeroVT at this
    simp only [hi, Option.bind_some] at this
    cases hiz : i.zero with
    | none => simp [hiz] at this
    | some y =>
      simp only [hiz, Option.bind_some] at this
      split at this
      · injection this with this; subst this; rfl
      · simp at this
  have hu := elemT_run he
  obtain ⟨xd, hxu, hxd⟩ := kindT_run hxk
  have hxi : P.underlying xty = some .string ∨ ∃ e', P.underlying xty = some (.slice e') := by
    rcases hni with rfl | rfl
    · cases xd <;> simp [tkOf] at hxd; exact .inr ⟨_, hxu⟩
    · cases xd <;> simp [tkOf] at hxd; exact .inl hxu
  subst hsize
  subst hby
  split at h
  case h_2 => simp at h
  rename_i base n c
  split at h
  · rename_i hm0
    subst hm0
    have hnew0 : new' = [] := List.eq_nil_of_length_eq_zero (by rw [← hn1.len, hnl]; simp)
    subst hnew0
    split at h
    · rename_i hnc
      have done : ∀ base' c', (n ≤ c') → VRel ρ (.slice base n c) (.slice base' n c') → Does P ρ M w (Builtin.append_ #[ty, xty] ty #[.slice base' n c', x']) (.slice base n c) M := by
        intro base' c' hle hv
        have := run_append_fits P w ty xty e i hu hi hxi base' n c' 0 x' [] hn2 hn3 (by omega) w (fun a _ => rfl) (fun _ => rfl)
        exact Does.still hR this hv
      cases hs with
      | sliN => simp at h; obtain ⟨rfl, rfl⟩ := h; exact done none 0 (Nat.le_refl _) .sliN
      | sli e1 hok =>
        simp at h; obtain ⟨rfl, rfl⟩ := h
        refine done _ _ ?_ (.sli e1 hok)
        rcases hok with ⟨h1, h2, _⟩ | ⟨h1, h2, _⟩
        · rw [h2]; exact hnc h1
        · exact h2
    · simp at h
  · rename_i hm0
    split at h
    · rename_i hfit
      split at h
      · rename_i b o
        cases hw : wrCells M b (o + n * i.size) new with
        | none => simp [hw] at h
        | some M2 =>
          simp [hw] at h
          obtain ⟨rfl, rfl⟩ := h
          obtain ⟨p, o', c', hp, rfl, hok, ho⟩ := slice_place hs
          rcases hok with ⟨h1, rfl, h3⟩ | ⟨h1, _⟩
          · have hoff := h3 (.inl (by omega))
            subst hoff
            obtain ⟨w', hrun, hext⟩ := run_wrCells P hR hp hn1 hw
            refine ⟨_, w', ρ, run_append_fits P w ty xty e i hu hi hxi _ n c' m x' new' hn2 hn3 hfit.2 w' (fun a ha => ?_) (fun h => by simp at h), .sli hp (.inl ⟨h1, rfl, fun _ => rfl⟩), hext⟩
            injection ha with ha; subst ha
            rw [addr_add]
            rw [Nat.add_assoc]; exact hrun
          · exact absurd h1 hfit.1
      · simp at h
    · rename_i hnofit
      split at h
      · simp at h
      · rename_i hroom
        simp only [not_or, Bool.not_eq_false, room47, decide_eq_true_eq] at hroom
        obtain ⟨hr47, h63⟩ := hroom
        have fresh : ∀ (old old' : List Value) (M1 : Mem) (base' : Option Addr) (c' : Nat), Rel ρ M1 w → M1.length = M.length → Ext ρ M w ρ M1 w → old.length = n * i.size → LRel ρ old old' → (∀ w2, w2.heap = w.heap → (Builtin.firstCells i.size n (.slice base' n c')).run P w2 = .ok old'.toArray w2) → c' < n + m →
            Does P ρ M w (Builtin.append_ #[ty, xty] ty #[.slice base' n c', x']) (.slice (some ⟨M.length, 0, none⟩) (n + m) capU) (M1 ++ [.cells (old ++ new) i.size .live]) := by
          intro old old' M1 base' c' hR1 hlen hext hol ho1 ho2 hlt
          have hrun := run_append_grows P w ty xty e i z hu hi hzz hxi base' n c' m x' old' new' hn2 hn3 ho2 hlt (by omega) hr47
          have hge := grownCap_ge w (n + m) c' e
          have ho3 : old'.length = n * i.size := by rw [← ho1.len, hol]
          have hn4 : new'.length = m * i.size := by rw [← hn1.len, hnl]
          have hcs : (old'.toArray ++ new'.toArray ++ Builtin.zeroCells z.cells (grownCap w (n + m) c' e - (n + m))).size = grownCap w (n + m) c' e * i.size := by
            simp only [Array.size_append, List.size_toArray, zeroCells_size, hzs, ho3, hn4, ← Nat.add_mul]
            congr 1; omega
          refine ⟨_, _, ρ.put M1.length ⟨w.heap.size, 0, grownCap w (n + m) c' e * i.size, i.size⟩, hrun, ?_, ?_⟩
          · rw [← hlen]
            exact .sli (p := ⟨w.heap.size, 0, grownCap w (n + m) c' e * i.size, i.size⟩) (Rho.put_same _ _ _) (.inr ⟨rfl, hge, by simp, fun _ => by simp⟩)
          · refine hext.trans ?_
            have := Ext.newRow (w' := w.drew.alloc (.cells (old'.toArray ++ new'.toArray ++ Builtin.zeroCells z.cells (grownCap w (n + m) c' e - (n + m))) e)) hR1 e (old ++ new) (old'.toArray ++ new'.toArray ++ Builtin.zeroCells z.cells (grownCap w (n + m) c' e - (n + m))) i.size ?_ ?_ rfl rfl rfl rfl
            · rw [hcs] at this; exact this
            · simp only [Array.toList_append, List.toList_toArray]
              rw [List.take_left' (by simp [ho1.len, hn1.len])]
              exact ho1.append hn1
            · rw [hcs]; simp only [List.length_append, hol, hnl, ← Nat.add_mul]; exact Nat.mul_le_mul_right _ hge
        have oldOf : ∀ {b o o' c' : Nat} {p : Place} {old : List Value}, ρ b = some p → (0 < n → o' = p.off + o) → rdCells M b o (n * i.size) = some old → ∃ old', LRel ρ old old' ∧ old.length = n * i.size ∧ ∀ w2, w2.heap = w.heap → (Builtin.firstCells i.size n (.slice (some ⟨p.block, o', none⟩) n c')).run P w2 = .ok old'.toArray w2 := by
          intro b o o' c' p old hp ho hr
          obtain ⟨l', h1, h2, h3⟩ := run_rdCells P hR hp hr
          have hll := (rdCells_cells hR hp hr).1
          refine ⟨l', h1, hll, fun w2 hw2 => ?_⟩
          rcases Nat.eq_zero_or_pos n with h0 | h0
          · have hl0 : l' = [] := List.eq_nil_of_length_eq_zero (by rw [← h1.len, hll, h0]; simp)
            subst hl0; subst h0
            simp [Builtin.firstCells, loadCells, loadCellsFrom]
          · rw [ho h0]
            refine run_firstCells_some w2 i.size n _ n c' l' (by rw [← h1.len, hll]) (fun j v hj => ?_)
            rw [addr_add]
            have := h3 j v hj
            simp only [World.cell?, hw2] at this ⊢
            exact this
        split at h
        · rename_i hcU
          have hlt : c < n + m := by
            rcases Nat.lt_or_ge c (n + m) with h | h
            · exact h
            · exact absurd ⟨hcU, h⟩ hnofit
          split at h
          · split at h
            · rename_i hnc
              obtain ⟨rfl, rfl⟩ := hnc
              injection h with h; injection h with h1 h2; subst h1; subst h2
              cases hs
              have := fresh [] [] M none 0 hR rfl (Ext.refl hR) (by simp) (.nil ρ) (fun w2 _ => by simp [Builtin.firstCells]) hlt
              simpa using this
            · simp at h
          · rename_i b o
            cases hr : rdCells M b o (n * i.size) with
            | none => simp [hr] at h
            | some old =>
              simp [hr] at h
              obtain ⟨rfl, rfl⟩ := h
              obtain ⟨p, o', c', hp, rfl, hok, ho⟩ := slice_place hs
              rcases hok with ⟨_, rfl, _⟩ | ⟨h1, _⟩
              · obtain ⟨old', g1, g2, g3⟩ := oldOf (c' := c') hp ho hr
                exact fresh old old' M _ c' hR rfl (Ext.refl hR) g2 g1 g3 hlt
              · exact absurd h1 hcU
          · simp at h
        · rename_i hcU
          simp only [Decidable.not_not] at hcU
          split at h
          · rename_i b o
            split at h
            · rename_i vs u hM
              split at h
              · rename_i hcnd
                cases hr : rdCells M b o (n * i.size) with
                | none => simp [hr] at h
                | some old =>
                  simp [hr] at h
                  obtain ⟨rfl, rfl⟩ := h
                  obtain ⟨p, o', c', hp, rfl, hok, ho⟩ := slice_place hs
                  rcases hok with ⟨h1, _⟩ | ⟨_, hnc, hroomU, hoff⟩
                  · exact absurd hcU h1
                  · obtain ⟨old', g1, g2, g3⟩ := oldOf (c' := c') hp ho hr
                    rcases Nat.lt_or_ge c' (n + m) with hlt | hge
                    · have hk := Ext.kill hR (x := b) vs u
                      exact fresh old old' _ _ c' hk.rel (by simp) hk g2 g1 g3 hlt
                    · -- in place
                      have hoff' := hoff (by omega)
                      subst hoff'
                      obtain ⟨ob, hob, hor⟩ := hR.obj b p hp
                      rw [hM] at hob; injection hob with hob; subst hob
                      rcases hor with hd | ⟨cs, el, fr, hbk, hpu, hsz2, hvl, hcs, hfr⟩
                      · simp at hd
                      · have hpu' : p.unit = i.size := hpu.trans hcnd.1
                        have hn4 : new'.length = m * i.size := by rw [← hn1.len, hnl]
                        have hmul : (n + m) * i.size ≤ c' * i.size := Nat.mul_le_mul_right _ hge
                        rw [Nat.add_mul] at hmul
                        rw [hpu'] at hroomU
                        have hin : o + n * i.size + m * i.size ≤ p.room := by omega
                        obtain ⟨f1, f2, f3, f4, f5, f6⟩ := wrWorld_facts p.block new' w (p.off + o + n * i.size)
                        obtain ⟨cs', k1, k2, k3⟩ := f6 cs el fr hbk (by rw [hn4]; omega)
                        have hst := run_storeCells P new' w p.block (p.off + o + n * i.size) 0 cs el fr hbk (by rw [hn4]; omega) (fun j hj => by
                          have := hfr rfl (o + n * i.size + j) (by omega)
                          rw [show p.off + o + n * i.size + 0 + j = p.off + (o + n * i.size + j) by omega]; exact this) (hn1.oneCell (by simpa using hcnd.2))
                        simp only [Nat.add_zero] at hst
                        refine ⟨_, wrWorld w p.block (p.off + o + n * i.size) new', ρ.put M.length ⟨p.block, p.off + o, p.room - o, i.size⟩,
                          run_append_fits P w ty xty e i hu hi hxi _ n c' m x' new' hn2 hn3 hge _ (fun a ha => by injection ha with ha; subst ha; rw [addr_add]; exact hst) (fun h => by simp at h), ?_, ?_⟩
                        · refine .sli (p := ⟨p.block, p.off + o, p.room - o, i.size⟩) (Rho.put_same _ _ _) (.inr ⟨rfl, hge, ?_, fun _ => by simp⟩)
                          simp only
                          omega
                        · refine Ext.move hR hp hM rfl f1 f2 f3 f4 f5 (.inr ⟨cs', el, fr, k1, rfl, ?_, ?_, ?_, ?_⟩) (by rw [k1, hbk]; rfl)
                          · simp only; omega
                          · simp only [List.length_append, g2, hnl]; omega
                          · intro j v hj
                            simp only
                            rw [k3]
                            rw [List.getElem?_append] at hj
                            by_cases hjo : j < old.length
                            · rw [if_pos hjo] at hj
                              rw [if_neg (by omega)]
                              have hrd := hr
                              unfold rdCells at hrd
                              rw [hM] at hrd
                              simp only at hrd
                              split at hrd
                              · simp at hrd
                              · injection hrd with hrd
                                rw [← hrd, List.getElem?_take] at hj
                                split at hj
                                · rw [List.getElem?_drop] at hj
                                  obtain ⟨v', a1, a2⟩ := hcs _ _ hj
                                  exact ⟨v', by rw [Nat.add_assoc]; exact a1, a2.mono (hR.put_le _)⟩
                                · simp at hj
                            · rw [if_neg hjo] at hj
                              obtain ⟨v', a1, a2⟩ := hn1.get hj
                              have hjl : j - old.length < new'.length := (List.getElem?_eq_some_iff.1 a1).1
                              rw [if_pos (by omega)]
                              refine ⟨v', ?_, a2.mono (hR.put_le _)⟩
                              rw [show p.off + o + j - (p.off + o + n * i.size) = j - old.length by omega]; exact a1
                          · intro _ j hj
                            simp only at hj ⊢
                            have := hfr rfl (o + j) (by omega)
                            rw [show p.off + o + j = p.off + (o + j) by omega]; exact this
              · simp at h
            · simp at h
          · simp at h

end Go.Proofs.YtabkcbaknjenmaaAM

/-
  AN ABSTRACT MACHINE OVER THE MODEL, part 7: copy, len, maps, strings, and all operations together.
-/
set_option linter.unusedVariables false
set_option linter.unusedSimpArgs false
namespace Go.Proofs.YtabkcbaknjenmaaAM
open Go

/-! ### copy -/
def copyA (P : Program) (M : Mem) (dty : TypeId) (d s : Value) : Option (Value × Mem) :=
  (elemT P dty).bind fun e => (sizeT P e).bind fun size => if size = 0 then none else (srcA P M size s).bind fun (m, new) =>
  match d with
  | .slice none 0 0 => some (.int .i64 0, M)
  | .slice (some ⟨b, o, none⟩) n _ => if min m n = 0 then some (.int .i64 0, M) else (wrCells M b o (new.take (min m n * size))).map fun M' => (.int .i64 (min m n : Nat), M')
  | _ => none
theorem copyA_sound (P : Program) {ρ : Rho} {M M' : Mem} {w : World} (hR : Rel ρ M w) {dty sty : TypeId} {d s d' s' v : Value} (h : copyA P M dty d s = some (v, M')) (hd : VRel ρ d d') (hs : VRel ρ s s') (ty : TypeId) :
    Does P ρ M w (Builtin.copy_ #[dty, sty] ty #[d', s']) v M' := by
  unfold copyA at h
  cases he : elemT P dty with
  | none => simp [he] at h
  | some e =>
  simp only [he, Option.bind_some] at h
  cases hsz : sizeT P e with
  | none => simp [hsz] at h
  | some size =>
  simp only [hsz, Option.bind_some] at h
  split at h
  · simp at h
  rename_i hsz0
  cases hsrc : srcA P M size s with
  | none => simp [hsrc] at h
  | some q =>
  obtain ⟨m, new⟩ := q
  simp only [hsrc, Option.bind_some] at h
  obtain ⟨new', hn1, hn2, hn3⟩ := run_srcA P hR hsrc hs
  have hnl := srcA_len hR hsrc hs
  have hu := elemT_run he
  have run_part : ∀ k, k ≤ m → (Builtin.firstCells size k s').run P w = .ok (new'.take (k * size)).toArray w := by
    intro k hk
    have hfull := hn3 w rfl
    unfold srcA at hsrc
    split at hsrc
    · rename_i b o k2 c
      cases hr : rdCells M b o (k2 * size) with
      | none => simp [hr] at hsrc
      | some l2 =>
        simp [hr] at hsrc
        obtain ⟨rfl, rfl⟩ := hsrc
        obtain ⟨p, o', c', hp, rfl, hok, ho⟩ := slice_place hs
        rcases Nat.eq_zero_or_pos k with h0 | h0
        · subst h0; simp [Builtin.firstCells, loadCells, loadCellsFrom]
        · have ho' := ho (by omega)
          subst ho'
          have hrk : rdCells M b o (k * size) = some (l2.take (k * size)) := by
            have hle : k * size ≤ k2 * size := Nat.mul_le_mul_right _ hk
            unfold rdCells at hr ⊢
            split at hr
            · split at hr
              · simp at hr
              · rename_i hc
                simp only [not_or, Nat.not_lt] at hc
                injection hr with hr; subst hr
                rw [if_neg (by simp only [not_or]; exact ⟨hc.1, by omega⟩), List.take_take]
                congr 2; omega
            · simp at hr
          obtain ⟨l', h1, h2, h3⟩ := run_rdCells P hR hp hrk
          obtain ⟨l3, g1, g2, g3⟩ := run_rdCells P hR hp hr
          have hl3 : l3.toArray = new'.toArray := by
            have := hn3 w rfl
            rw [run_firstCells_some w size k2 _ k2 c' l3 (by rw [← g1.len]; exact (rdCells_cells hR hp hr).1) (fun j v hj => by rw [addr_add]; exact g3 j v hj)] at this
            injection this
          have hl3' : l3 = new' := by simpa using hl3
          subst hl3'
          have hlen : (l3.take (k * size)).length = k * size := by
            have := (rdCells_cells hR hp hr).1
            rw [List.length_take, ← g1.len, this]
            have hle : k * size ≤ k2 * size := Nat.mul_le_mul_right _ hk
            omega
          refine run_firstCells_some w size k _ k2 c' _ hlen (fun j v hj => ?_)
          rw [addr_add]
          rw [List.getElem?_take] at hj
          split at hj
          · exact g3 j v hj
          · simp at hj
    · simp at hsrc
      obtain ⟨rfl, rfl⟩ := hsrc
      cases hs
      have : k = 0 := by omega
      subst this
      simp [Builtin.firstCells]
    · rename_i str
      split at hsrc
      · rename_i hs1
        simp at hsrc
        obtain ⟨rfl, rfl⟩ := hsrc
        cases hs
        have hfull2 := hfull
        simp only [Builtin.firstCells, Sem.run_pure] at hfull2 ⊢
        have e1 : str.extract 0 str.size = str := by simp
        rw [e1] at hfull2
        injection hfull2 with hfull2
        congr 1
        have e2 : new' = (str.data.map fun b => Value.int .u8 b.toNat).toList := by
          have := congrArg Array.toList hfull2
          simpa using this.symm
        subst e2
        subst hs1
        apply Array.ext'
        simp [ByteArray.extract, ByteArray.copySlice]
      · simp at hsrc
    · simp at hsrc
  split at h
  · injection h with h; injection h with h1 h2; subst h1; subst h2
    cases hd
    refine Does.still hR (v' := .int .i64 0) ?_ (.int _ _)
    have h0 := run_part 0 (Nat.zero_le _)
    simp at h0
    simp [Builtin.copy_, run_underlying hu, hn2, run_sizeT hsz, h0, goInt]
  · rename_i b o n c
    obtain ⟨p, o', c', hp, rfl, hok, ho⟩ := slice_place hd
    split at h
    · rename_i hmn
      injection h with h; injection h with h1 h2; subst h1; subst h2
      refine Does.still hR (v' := .int .i64 0) ?_ (.int _ _)
      have h0 := run_part 0 (Nat.zero_le _)
      simp at h0
      have hmn' : Nat.min m n = 0 := hmn
      simp [Builtin.copy_, run_underlying hu, hn2, run_sizeT hsz, hmn', h0, goInt, storeCells]
    · rename_i hmn
      cases hw : wrCells M b o (new.take (min m n * size)) with
      | none => simp [hw] at h
      | some M2 =>
        simp [hw] at h
        obtain ⟨rfl, rfl⟩ := h
        have ho' := ho (by omega)
        subst ho'
        obtain ⟨w', hrun, hext⟩ := run_wrCells P hR hp (hn1.take (min m n * size)) hw
        have h0 := run_part (min m n) (Nat.min_le_left _ _)
        refine ⟨.int .i64 (min m n : Nat), w', ρ, ?_, .int _ _, hext⟩
        have hmn' : Nat.min m n = min m n := rfl
        simp only [Builtin.copy_, List.getElem?_toArray, List.getElem?_cons_zero, List.getElem?_cons_succ, Sem.run_bind, run_underlying hu, Result.andThen_ok, hn2, run_sizeT hsz, hmn', h0, hrun, Sem.run_pure, goInt]
  · simp at h

/-! ### len, min, max -/
def lenA (P : Program) (M : Mem) (ty : TypeId) (x : Value) : Option Value :=
  match kindT P ty, x with
  | some .str, .string s => some (.int .i64 s.size)
  | some .slice, .slice _ n _ => some (.int .i64 n)
  | some .map, .map none => some (.int .i64 0)
  | some .map, .map (some r) => match M[r]? with | some (.map es) => some (.int .i64 es.length) | _ => none
  | _, _ => none
theorem lenA_sound (P : Program) {ρ : Rho} {M : Mem} {w : World} (hR : Rel ρ M w) {ty : TypeId} {x x' v : Value} (h : lenA P M ty x = some v) (hx : VRel ρ x x') (t : TypeId) : Does P ρ M w (Builtin.len_ #[ty] t #[x']) v M := by
  unfold lenA at h
  split at h
  · rename_i s hk
    injection h with h; subst h
    cases hx
    obtain ⟨d, hd, hd2⟩ := kindT_run hk
    cases d <;> simp [tkOf] at hd2
    exact Does.still hR (by simp [Builtin.len_, run_underlying hd, goInt]) (.int _ _)
  · rename_i a n c hk
    injection h with h; subst h
    obtain ⟨d, hd, hd2⟩ := kindT_run hk
    cases d <;> simp [tkOf] at hd2
    cases hx <;> exact Does.still hR (by simp [Builtin.len_, run_underlying hd, goInt]) (.int _ _)
  · rename_i hk
    injection h with h; subst h
    cases hx
    obtain ⟨d, hd, hd2⟩ := kindT_run hk
    cases d <;> simp [tkOf] at hd2
    exact Does.still hR (by simp [Builtin.len_, run_underlying hd, goInt]) (.int _ _)
  · rename_i r hk
    split at h
    · rename_i es hM
      injection h with h; subst h
      cases hx with
      | map e =>
        rename_i p
        obtain ⟨d, hd, hd2⟩ := kindT_run hk
        cases d <;> simp [tkOf] at hd2
        obtain ⟨ob, hob, hor⟩ := hR.obj r p e
        rw [hM] at hob; injection hob with hob; subst hob
        obtain ⟨es', clock, hb, hl, _⟩ := hor
        refine Does.still hR (v' := .int .i64 es.length) ?_ (.int _ _)
        simp [Builtin.len_, run_underlying hd, getObj, Sem.run, hb, goInt, hl]
    · simp at h
  · simp at h

/-! ### Maps -/
def findA (kind : TypeDesc) (k : Value) : List (Value × Value) → Nat → Option (Option (Nat × Value))
  | [], _ => some none
  | e :: es, i =>
    match Instr.sameNow kind k e.1 with
    | some true => some (some (i, e.2))
    | some false => findA kind k es (i + 1)
    | none => none
theorem findA_rel {ρ : Rho} (kind : TypeDesc) (k : Value) : ∀ (es : List (Value × Value)) (es' : List MapEntry) (i : Nat), es.length = es'.length →
    (∀ (j : Nat) (e : Value × Value) (e' : MapEntry), es[j]? = some e → es'[j]? = some e' → plain1 e.1 = true ∧ e'.key = e.1 ∧ VRel ρ e.2 e'.val) →
    (findA kind k es i = some none → Instr.findNow kind k es' i = some none) ∧ (∀ j v, findA kind k es i = some (some (j, v)) → ∃ v', Instr.findNow kind k es' i = some (some (j, v')) ∧ VRel ρ v v' ∧ i ≤ j ∧ j < i + es.length ∧ ∃ e', es'[j - i]? = some e' ∧ Instr.sameNow kind k e'.key = some true)
  | [], [], i, _, _ => ⟨fun _ => rfl, fun j v h => by simp [findA] at h⟩
  | [], _ :: _, _, h, _ => by simp at h
  | _ :: _, [], _, h, _ => by simp at h
  | e :: es, e' :: es', i, hl, hr => by
    obtain ⟨h1, h2, h3⟩ := hr 0 e e' rfl rfl
    obtain ⟨ih1, ih2⟩ := findA_rel kind k es es' (i + 1) (by simpa using hl) (fun j a b ha hb => hr (j + 1) a b (by simpa using ha) (by simpa using hb))
    simp only [findA, Instr.findNow, h2]
    cases hs : Instr.sameNow kind k e.1 with
    | none => exact ⟨fun h => by simp at h, fun j v h => by simp at h⟩
    | some b =>
      cases b with
      | true =>
        refine ⟨fun h => by simp at h, fun j v h => ?_⟩
        simp at h
        obtain ⟨rfl, rfl⟩ := h
        exact ⟨e'.val, rfl, h3, Nat.le_refl _, by simp, e', by simp, by rw [h2]; exact hs⟩
      | false =>
        refine ⟨ih1, fun j v h => ?_⟩
        obtain ⟨v', a, b, c, d, e2, f, g⟩ := ih2 j v h
        refine ⟨v', a, b, by omega, by simp; omega, e2, ?_, g⟩
        rw [show j - i = (j - (i + 1)) + 1 by omega]
        simpa using f

def keyK : TypeDesc → Bool | .int _ | .string | .bool => true | _ => false
theorem run_checkKey (P : Program) {kt : TypeId} {kd : TypeDesc} (hk : P.underlying kt = some kd) (hkk : keyK kd = true) (v : Value) (b : Bool) (w : World) : (Instr.checkKey b 10000 kt v).run P w = .ok () w := by
  have h : ∀ n, (Instr.checkKey b (n + 1) kt v).run P w = .ok () w := by
    intro n
    cases kd <;> simp [keyK] at hkk <;> cases v <;> simp [Instr.checkKey, run_underlying hk]
  exact h 9999

def mapEs (M : Mem) : Value → Option (List (Value × Value))
  | .map none => some []
  | .map (some r) => match M[r]? with | some (.map es) => some es | _ => none
  | _ => none
theorem mapEs_rel {ρ : Rho} {M : Mem} {w : World} (hR : Rel ρ M w) {x x' : Value} {es : List (Value × Value)} (h : mapEs M x = some es) (hx : VRel ρ x x') :
    ∃ es' : Array MapEntry, es.length = es'.size ∧ (∀ (j : Nat) (e : Value × Value) (e' : MapEntry), es[j]? = some e → es'[j]? = some e' → plain1 e.1 = true ∧ e'.key = e.1 ∧ VRel ρ e.2 e'.val) ∧ ((x' = .map none ∧ es' = #[]) ∨ ∃ r c, x' = .map (some r) ∧ w.heap[r]? = some (.map es' c)) := by
  unfold mapEs at h
  split at h
  · injection h with h; subst h; cases hx; exact ⟨#[], rfl, by simp, .inl ⟨rfl, rfl⟩⟩
  · split at h
    · rename_i r es2 hM
      injection h with h; subst h
      cases hx with
      | map e =>
        obtain ⟨ob, hob, hor⟩ := hR.obj _ _ e
        rw [hM] at hob; injection hob with hob; subst hob
        obtain ⟨es', clock, hb, hl, hr⟩ := hor
        exact ⟨es', hl, hr, .inr ⟨_, clock, rfl, hb⟩⟩
    · simp at h
  · simp at h

def lookupA (P : Program) (M : Mem) (mty : TypeId) (x k : Value) (commaOk : Bool) : Option Value :=
  (mapT P mty).bind fun (kt, et) => (P.underlying kt).bind fun kd => if keyK kd = false ∨ plain1 k = false then none else
  (mapEs M x).bind fun es =>
  (findA kd k es 0).bind fun r => match r with
  | some (_, v) => some (if commaOk then .tuple #[v, .bool true] else v)
  | none => (zeroVT P et).map fun z => if commaOk then .tuple #[z, .bool false] else z
theorem lookupA_sound (P : Program) {ρ : Rho} {M : Mem} {w : World} (hR : Rel ρ M w) {mty : TypeId} {x x' k k' v : Value} {ok : Bool} (h : lookupA P M mty x k ok = some v) (hx : VRel ρ x x') (hk : VRel ρ k k') : Does P ρ M w (Instr.lookup mty x' k' ok) v M := by
  unfold lookupA at h
  cases hm : mapT P mty with
  | none => simp [hm] at h
  | some q =>
  obtain ⟨kt, et⟩ := q
  simp only [hm, Option.bind_some] at h
  cases hkd : P.underlying kt with
  | none => simp [hkd] at h
  | some kd =>
  simp only [hkd, Option.bind_some] at h
  split at h
  · simp at h
  rename_i hc
  simp only [not_or, Bool.not_eq_false] at hc
  have hk' := plain1_eq hc.2 hk
  subst hk'
  have hu := mapT_run hm
  have pair : ∀ {a a' : Value} (b : Bool), VRel ρ a a' → VRel ρ (if ok = true then .tuple #[a, .bool b] else a) (if ok = true then .tuple #[a', .bool b] else a') := by
    intro a a' b ha
    split
    · exact VRel.tuple_of (.cons ha (.cons (.bool b) (.nil ρ)))
    · exact ha
  have go : ∀ (es : List (Value × Value)) (es' : Array MapEntry), es.length = es'.size → (∀ (j : Nat) (e : Value × Value) (e' : MapEntry), es[j]? = some e → es'[j]? = some e' → plain1 e.1 = true ∧ e'.key = e.1 ∧ VRel ρ e.2 e'.val) →
      ((x' = .map none ∧ es' = #[]) ∨ ∃ r c, x' = .map (some r) ∧ w.heap[r]? = some (.map es' c)) →
      ((findA kd k' es 0).bind fun r => match r with
        | some (_, v) => some (if ok then .tuple #[v, .bool true] else v)
        | none => (zeroVT P et).map fun z => if ok then .tuple #[z, .bool false] else z) = some v → Does P ρ M w (Instr.lookup mty x' k' ok) v M := by
    intro es es' hl hr hx' h
    have hck := fun b => run_checkKey P hkd hc.1 k' b w
    obtain ⟨f1, f2⟩ := findA_rel (ρ := ρ) kd k' es es'.toList 0 (by simpa using hl) (fun j e e' a b => hr j e e' a (by simpa using b))
    cases hf : findA kd k' es 0 with
    | none => simp [hf] at h
    | some r =>
      simp only [hf, Option.bind_some] at h
      cases r with
      | some q =>
        obtain ⟨j, v0⟩ := q
        simp at h
        subst h
        obtain ⟨v', g1, g2, _⟩ := f2 j v0 hf
        refine Does.still hR (v' := if ok = true then .tuple #[v', .bool true] else v') ?_ (pair true g2)
        rcases hx' with ⟨rfl, rfl⟩ | ⟨r, c, rfl, hb⟩
        · simp [Instr.findNow] at g1
        · cases ok <;> simp [Instr.lookup, run_underlying hu, getObj, Sem.run, hb, hck, Instr.findKey, run_underlying hkd, g1]
      | none =>
        cases hz : zeroVT P et with
        | none => simp [hz] at h
        | some z =>
          simp [hz] at h
          subst h
          have g1 := f1 hf
          obtain ⟨hz1, hz2⟩ := run_zeroVT hz w
          refine Does.still hR (v' := if ok = true then .tuple #[z, .bool false] else z) ?_ (pair false (plainC_refl ρ (plainC_of_cells hz2)))
          rcases hx' with ⟨rfl, rfl⟩ | ⟨r, c, rfl, hb⟩
          · cases ok <;> simp [Instr.lookup, run_underlying hu, hck, Instr.findKey, run_underlying hkd, Instr.findNow, hz1]
          · cases ok <;> simp [Instr.lookup, run_underlying hu, getObj, Sem.run, hb, hck, Instr.findKey, run_underlying hkd, g1, hz1]
  cases hes : mapEs M x with
  | none => simp [hes] at h
  | some es =>
    simp only [hes, Option.bind_some] at h
    obtain ⟨es', g1, g2, g3⟩ := mapEs_rel hR hes hx
    exact go es es' g1 g2 g3 h

/-- m[k] = v. -/
def updA (P : Program) (M : Mem) (mty : TypeId) (x k v : Value) : Option Mem :=
  (mapT P mty).bind fun (kt, _) => (P.underlying kt).bind fun kd => if keyK kd = false ∨ plain1 k = false then none else
  match x with
  | .map (some r) => match M[r]? with
    | some (.map es) => (findA kd k es 0).map fun q => match q with
      | some (j, _) => M.set r (.map (es.set j (k, v)))
      | none => M.set r (.map (es ++ [(k, v)]))
    | _ => none
  | _ => none
theorem sameNow_bits {kd : TypeDesc} {a b : Value} (h : Instr.sameNow kd a b = some true) : Instr.sameBits 10000 b a = true := by
  unfold Instr.sameNow at h
  split at h
  · split at h
    · rename_i hk; subst hk; simp at h; subst h; simp [Instr.sameBits]
    · simp at h
  · injection h with h; rw [beq_toListBytes] at h; simp only [Instr.sameBits]; rw [beq_toListBytes]; exact BEq.symm h
  · simp at h; subst h; simp [Instr.sameBits]
  · simp at h

theorem updA_sound (P : Program) {ρ : Rho} {M M' : Mem} {w : World} (hR : Rel ρ M w) {mty : TypeId} {x x' k k' v v' : Value} (h : updA P M mty x k v = some M') (hx : VRel ρ x x') (hk : VRel ρ k k') (hv : VRel ρ v v') :
    ∃ w', (Instr.mapUpdate mty x' k' v').run P w = .ok () w' ∧ Ext ρ M w ρ M' w' := by
  unfold updA at h
  cases hm : mapT P mty with
  | none => simp [hm] at h
  | some q =>
  obtain ⟨kt, et⟩ := q
  simp only [hm, Option.bind_some] at h
  cases hkd : P.underlying kt with
  | none => simp [hkd] at h
  | some kd =>
  simp only [hkd, Option.bind_some] at h
  split at h
  · simp at h
  rename_i hc
  simp only [not_or, Bool.not_eq_false] at hc
  have hk' := plain1_eq hc.2 hk
  subst hk'
  have hu := mapT_run hm
  split at h
  · rename_i r
    split at h
    · rename_i es hM
      cases hx with
      | map e =>
        rename_i p
        obtain ⟨ob, hob, hor⟩ := hR.obj _ _ e
        rw [hM] at hob; injection hob with hob; subst hob
        obtain ⟨es', clock, hb, hl, hr⟩ := hor
        have hck := run_checkKey P hkd hc.1 k' false w
        obtain ⟨f1, f2⟩ := findA_rel (ρ := ρ) kd k' es es'.toList 0 (by simpa using hl) (fun j e e' a b => hr j e e' a (by simpa using b))
        have hset : ∀ (o : Obj), (setObj p.block o).run P w = .ok () { w with heap := w.heap.setIfInBounds p.block o } := by
          intro o; simp [setObj, Sem.run, hb]
        have upd : ∀ (es2 : List (Value × Value)) (es2' : Array MapEntry) (c2 : Nat), es2.length = es2'.size → (∀ (j : Nat) (e : Value × Value) (e' : MapEntry), es2[j]? = some e → es2'[j]? = some e' → plain1 e.1 = true ∧ e'.key = e.1 ∧ VRel ρ e.2 e'.val) →
            Ext ρ M w ρ (M.set r (.map es2)) { w with heap := w.heap.setIfInBounds p.block (.map es2' c2) } := by
          intro es2 es2' c2 h1 h2
          have hlt := hR.blk _ _ e
          refine Ext.upd hR e hM rfl rfl rfl rfl rfl (by simp) (fun k hk => by simp [Array.getElem?_setIfInBounds, hk.symm]) ⟨es2', c2, by simp [hlt], h1, h2⟩ (by rw [hb]; simp [hlt, frzO])
        cases hf : findA kd k' es 0 with
        | none => simp [hf] at h
        | some q =>
          simp only [hf, Option.map_some] at h
          cases q with
          | some jv =>
            obtain ⟨j, v0⟩ := jv
            simp at h
            subst h
            obtain ⟨v1, g1, g2, g3, g4, e2, g5, g6⟩ := f2 j v0 hf
            simp only [Nat.sub_zero] at g5
            have g5' : es'[j]? = some e2 := by simpa using g5
            refine ⟨_, ?_, upd (es.set j (k', v)) (es'.modify j fun e => { e with key := k', val := v' }) clock (by simp [hl]) ?_⟩
            · have hb2 := sameNow_bits g6
              simp [Instr.mapUpdate, run_underlying hu, getObj, Sem.run, hb, hck, Instr.findKey, run_underlying hkd, g1, g5', Instr.keyThatStays, hb2, hset]
            · intro i a b ha hb2
              rw [List.getElem?_set] at ha
              rw [Array.getElem?_modify] at hb2
              by_cases hij : j = i
              · subst hij
                rw [if_pos rfl] at ha hb2
                rw [g5'] at hb2
                simp at hb2
                subst hb2
                split at ha
                · injection ha with ha; subst ha; exact ⟨hc.2, rfl, hv⟩
                · simp at ha
              · rw [if_neg hij] at ha hb2
                exact hr i a b ha hb2
          | none =>
            simp at h
            subst h
            have g1 := f1 hf
            refine ⟨_, ?_, upd (es ++ [(k', v)]) (es'.push { key := k', val := v', born := clock }) (clock + 1) (by simp [hl]) ?_⟩
            · simp [Instr.mapUpdate, run_underlying hu, getObj, Sem.run, hb, hck, Instr.findKey, run_underlying hkd, g1, hset]
            · intro i a b ha hb2
              rw [List.getElem?_append] at ha
              rw [Array.getElem?_push] at hb2
              by_cases hi : i < es.length
              · rw [if_pos hi] at ha
                rw [if_neg (by omega)] at hb2
                exact hr i a b ha hb2
              · rw [if_neg hi] at ha
                have hi2 : i = es'.size := by
                  have : i - es.length < 1 := by
                    have := (List.getElem?_eq_some_iff.1 ha).1
                    simpa using this
                  omega
                rw [if_pos hi2] at hb2
                simp at hb2
                subst hb2
                have : i - es.length = 0 := by omega
                rw [this] at ha
                simp at ha
                subst ha
                exact ⟨hc.2, rfl, hv⟩
    · simp at h
  · simp at h

end Go.Proofs.YtabkcbaknjenmaaAM

/-
  AN ABSTRACT MACHINE OVER THE MODEL, part 8: all operations that call nothing, together.
-/
set_option linter.unusedVariables false
set_option linter.unusedSimpArgs false
namespace Go.Proofs.YtabkcbaknjenmaaAM
open Go

/-! ### Strings gone through -/
def rangeA (P : Program) (M : Mem) (ty : TypeId) (x : Value) : Option (Value × Mem) :=
  match kindT P ty, x with
  | some .str, .string s => some (.pointer (some ⟨M.length, 0, none⟩), M ++ [.siter s 0])
  | _, _ => none
theorem rangeA_sound (P : Program) {ρ : Rho} {M M' : Mem} {w : World} (hR : Rel ρ M w) {ty : TypeId} {x x' v : Value} (h : rangeA P M ty x = some (v, M')) (hx : VRel ρ x x') : Does P ρ M w (Instr.range ty x') v M' := by
  unfold rangeA at h
  split at h
  · rename_i s hk
    injection h with h; injection h with h1 h2; subst h1; subst h2
    cases hx
    obtain ⟨d, hd, hd2⟩ := kindT_run hk
    cases d <;> simp [tkOf] at hd2
    refine ⟨.pointer (some ⟨w.heap.size, 0, none⟩), w.alloc (.stringIter s 0), ρ.put M.length ⟨w.heap.size, 0, 0, 0⟩, ?_, .ptr (p := ⟨w.heap.size, 0, 0, 0⟩) (Rho.put_same _ _ _), ?_⟩
    · simp [Instr.range, run_underlying hd]
    · exact Ext.alloc hR (ob := .stringIter s 0) rfl rfl rfl rfl rfl ⟨rfl, by show (w.heap.push _)[w.heap.size]? = _; simp⟩
  · simp at h

def nextA (M : Mem) (it : Value) : Option (Value × Mem) :=
  match it with
  | .pointer (some ⟨r, 0, none⟩) => match M[r]? with
    | some (.siter s pos) => if pos < s.size then some (.tuple #[.bool true, .int .i64 pos, .int .i32 (Utf8.decode s pos).1], M.set r (.siter s (pos + (Utf8.decode s pos).2))) else some (.tuple #[.bool false], M)
    | _ => none
  | _ => none
theorem nextA_sound (P : Program) {ρ : Rho} {M M' : Mem} {w : World} (hR : Rel ρ M w) {it it' v : Value} (h : nextA M it = some (v, M')) (hx : VRel ρ it it') (t : TypeId) : Does P ρ M w (Instr.next it' true t) v M' := by
  unfold nextA at h
  split at h
  · rename_i r
    split at h
    · rename_i s pos hM
      cases hx with
      | ptr e =>
        rename_i p
        obtain ⟨ob, hob, hor⟩ := hR.obj _ _ e
        rw [hM] at hob; injection hob with hob; subst hob
        obtain ⟨h0, hb⟩ := hor
        split at h
        · rename_i hlt
          injection h with h; injection h with h1 h2; subst h1; subst h2
          have hbl := hR.blk _ _ e
          refine ⟨.tuple #[.bool true, .int .i64 pos, .int .i32 (Utf8.decode s pos).1], { w with heap := w.heap.setIfInBounds p.block (.stringIter s (pos + (Utf8.decode s pos).2)) }, ρ, ?_, ?_, ?_⟩
          · simp [Instr.next, h0, getObj, setObj, Sem.run, hb, hlt, goInt]
          · exact VRel.tuple_of (.cons (.bool _) (.cons (.int _ _) (.cons (.int _ _) (.nil ρ))))
          · exact Ext.upd hR e hM rfl rfl rfl rfl rfl (by simp) (fun k hk => by simp [Array.getElem?_setIfInBounds, hk.symm]) ⟨h0, by simp [hbl]⟩ (by rw [hb]; simp [hbl, frzO])
        · rename_i hlt
          injection h with h; injection h with h1 h2; subst h1; subst h2
          refine Does.still hR (v' := .tuple #[.bool false]) ?_ (VRel.tuple_of (.cons (.bool _) (.nil ρ)))
          simp [Instr.next, h0, getObj, Sem.run, hb, hlt]
    · simp at h
  · simp at h

/-! ### Parts of values -/
def partA (P : Program) (ty : TypeId) (cs : List Value) (off : Nat) : Option Value :=
  (kindT P ty).bind fun k => if aggK k then (sizeT P ty).map fun n => .agg ((cs.drop off).take n).toArray else cs[off]?
theorem run_partA (P : Program) {ρ : Rho} {ty : TypeId} {cs : List Value} {cs' : Array Value} {off : Nat} {v : Value} (h : partA P ty cs off = some v) (hc : LRel ρ cs cs'.toList) (w : World) : ∃ v', (part ty cs' off).run P w = .ok v' w ∧ VRel ρ v v' := by
  unfold partA at h
  cases hk : kindT P ty with
  | none => simp [hk] at h
  | some k =>
    simp only [hk, Option.bind_some] at h
    cases hg : aggK k with
    | true =>
      rw [hg] at h
      simp only [if_true] at h
      cases hn : sizeT P ty with
      | none => simp [hn] at h
      | some n =>
        simp [hn] at h
        subst h
        refine ⟨.agg (cs'.extract off (off + n)), by simp [part, run_isAggT hk, hg, run_sizeT hn], ?_⟩
        have := VRel.agg_of ((hc.drop off).take n)
        have e : ((cs'.toList.drop off).take n).toArray = cs'.extract off (off + n) := by
          apply Array.ext'
          simp [List.take_drop]
        rw [e] at this
        exact this
    | false =>
      rw [hg] at h
      simp only [Bool.false_eq_true, if_false] at h
      obtain ⟨v', h1, h2⟩ := hc.get h
      refine ⟨v', ?_, h2⟩
      have : cs'[off]? = some v' := by simpa using h1
      simp [part, run_isAggT hk, hg, this]

def fieldA (P : Program) (ty : TypeId) (x : Value) (f : Nat) : Option Value :=
  match x with
  | .agg cs => (fieldT P ty f).bind fun (ft, off) => partA P ft cs.toList off
  | _ => none
theorem fieldA_sound (P : Program) {ρ : Rho} {M : Mem} {w : World} (hR : Rel ρ M w) {ty : TypeId} {x x' v : Value} {f : Nat} (h : fieldA P ty x f = some v) (hx : VRel ρ x x') : Does P ρ M w (Instr.field ty x' f) v M := by
  unfold fieldA at h
  split at h
  · rename_i cs
    cases hf : fieldT P ty f with
    | none => simp [hf] at h
    | some q =>
      obtain ⟨ft, off⟩ := q
      simp only [hf, Option.bind_some] at h
      obtain ⟨cs', rfl, hc⟩ := hx.agg_inv
      obtain ⟨v', h1, h2⟩ := run_partA P h hc w
      obtain ⟨fs, fl, g1, g2, g3, g4⟩ := fieldT_run hf
      refine Does.still hR (v' := v') ?_ h2
      simp [Instr.field, run_underlying g1, g2, asAgg, g3, g4, h1]
  · simp at h

def indexA (P : Program) (ty : TypeId) (x i : Value) : Option Value :=
  match x, i with
  | .string s, .int _ k => if kindT P ty = some .str then (if 0 ≤ k then s[k.toNat]? else none).map fun b => .int .u8 b.toNat else none
  | .agg cs, .int _ k => (arrT P ty).bind fun (n, e) => (sizeT P e).bind fun size => if 0 ≤ k ∧ k < n then partA P e cs.toList (k.toNat * size) else none
  | _, _ => none
theorem indexA_sound (P : Program) {ρ : Rho} {M : Mem} {w : World} (hR : Rel ρ M w) {ty : TypeId} {x x' i i' v : Value} (h : indexA P ty x i = some v) (hx : VRel ρ x x') (hi : VRel ρ i i') : Does P ρ M w (Instr.index ty x' i') v M := by
  unfold indexA at h
  split at h
  · rename_i s kk k
    cases hx; cases hi
    split at h
    · rename_i hk
      obtain ⟨d, hd, hd2⟩ := kindT_run hk
      cases d <;> simp [tkOf] at hd2
      cases hb : (if 0 ≤ k then s[k.toNat]? else none) with
      | none => simp [hb] at h
      | some b =>
        simp [hb] at h
        subst h
        refine Does.still hR (v' := .int .u8 b.toNat) ?_ (.int _ _)
        simp only [Instr.index, asIntOf, Sem.run_bind, Sem.run_pure, Result.andThen_ok, run_underlying hd, hb]
    · simp at h
  · rename_i cs kk k
    cases hi
    cases ha : arrT P ty with
    | none => simp [ha] at h
    | some q =>
      obtain ⟨n, e⟩ := q
      simp only [ha, Option.bind_some] at h
      cases hs : sizeT P e with
      | none => simp [hs] at h
      | some size =>
        simp only [hs, Option.bind_some] at h
        split at h
        · rename_i hk
          obtain ⟨cs', rfl, hc⟩ := hx.agg_inv
          obtain ⟨v', h1, h2⟩ := run_partA P h hc w
          refine Does.still hR (v' := v') ?_ h2
          simp [Instr.index, asIntOf, run_underlying (arrT_run ha), hk.1, hk.2, run_sizeT hs, h1]
        · simp at h
  · simp at h

def extractA (x : Value) (i : Nat) : Option Value := match x with | .tuple vs => vs[i]? | _ => none
theorem extractA_sound (P : Program) {ρ : Rho} {M : Mem} {w : World} (hR : Rel ρ M w) {x x' v : Value} {i : Nat} (h : extractA x i = some v) (hx : VRel ρ x x') : Does P ρ M w (Instr.extract x' i) v M := by
  unfold extractA at h
  split at h
  · rename_i vs
    obtain ⟨vs', rfl, hc⟩ := hx.tuple_inv
    obtain ⟨v', h1, h2⟩ := hc.get (n := i) (v := v) (by simpa using h)
    refine Does.still hR (v' := v') ?_ h2
    have : vs'[i]? = some v' := by simpa using h1
    simp [Instr.extract, this]
  · simp at h

def assertA (P : Program) (ty : TypeId) (x : Value) (ok : Bool) : Option Value :=
  (kindT P ty).bind fun k => if k = .iface then none else match x with
  | .iface t v => if t = ty then some (if ok then .tuple #[v, .bool true] else v) else if ok then (zeroVT P ty).map fun z => .tuple #[z, .bool false] else none
  | .nilIface => if ok then (zeroVT P ty).map fun z => .tuple #[z, .bool false] else none
  | _ => none
theorem assertA_sound (P : Program) {ρ : Rho} {M : Mem} {w : World} (hR : Rel ρ M w) {xty ty : TypeId} {x x' v : Value} {ok : Bool} (h : assertA P ty x ok = some v) (hx : VRel ρ x x') : Does P ρ M w (Instr.typeAssert x' xty ty ok) v M := by
  unfold assertA at h
  cases hk : kindT P ty with
  | none => simp [hk] at h
  | some k =>
    simp only [hk, Option.bind_some] at h
    split at h
    · simp at h
    · rename_i hne
      obtain ⟨d, hd, rfl⟩ := kindT_run hk
      have hu := run_underlying hd w
      split at h
      · rename_i t v0
        cases hx with
        | iface _ hv =>
          rename_i v0'
          split at h
          · rename_i ht
            subst ht
            injection h with h; subst h
            refine Does.still hR (v' := if ok = true then .tuple #[v0', .bool true] else v0') ?_ ?_
            · cases d <;> simp [tkOf] at hne <;> cases ok <;> simp [Instr.typeAssert, hu]
            · split
              · exact VRel.tuple_of (.cons hv (.cons (.bool _) (.nil ρ)))
              · exact hv
          · rename_i ht
            split at h
            · rename_i hok
              subst hok
              cases hz : zeroVT P ty with
              | none => simp [hz] at h
              | some z =>
                simp [hz] at h; subst h
                obtain ⟨hz1, hz2⟩ := run_zeroVT hz w
                refine Does.still hR (v' := .tuple #[z, .bool false]) ?_ (VRel.tuple_of (.cons (plainC_refl ρ (plainC_of_cells hz2)) (.cons (.bool _) (.nil ρ))))
                cases d <;> simp [tkOf] at hne <;> simp [Instr.typeAssert, hu, ht, hz1]
            · simp at h
      · cases hx
        split at h
        · rename_i hok
          subst hok
          cases hz : zeroVT P ty with
          | none => simp [hz] at h
          | some z =>
            simp [hz] at h; subst h
            obtain ⟨hz1, hz2⟩ := run_zeroVT hz w
            refine Does.still hR (v' := .tuple #[z, .bool false]) ?_ (VRel.tuple_of (.cons (plainC_refl ρ (plainC_of_cells hz2)) (.cons (.bool _) (.nil ρ))))
            cases d <;> simp [tkOf] at hne <;> simp [Instr.typeAssert, hu, hz1]
        · simp at h
      · simp at h

/-! ### All together -/
def args2 (t : List Value) (a : Array Operand) : Option (Value × Value) := match a.toList with | [x, y] => some (evA t x, evA t y) | _ => none
def builtinA (P : Program) (t : List Value) (b : Builtin) (argTypes : Array TypeId) (args : Array Operand) (M : Mem) : Option (Value × Mem) :=
  match b, argTypes.toList, args.toList with
  | .len, [ty], [x] => (lenA P M ty (evA t x)).map (·, M)
  | .append, [ty, xty], [s, x] => appendA P M ty xty (evA t s) (evA t x)
  | .copy, [dty, _], [d, s] => copyA P M dty (evA t d) (evA t s)
  | .min, _, l => if (l.map (evA t)).all plain1 then (keep1 (pureS P (Builtin.min_ #[] 0 (l.map (evA t)).toArray))).map (·, M) else none
  | .max, _, l => if (l.map (evA t)).all plain1 then (keep1 (pureS P (Builtin.max_ #[] 0 (l.map (evA t)).toArray))).map (·, M) else none
  | _, _, _ => none

def opEval (P : Program) (t : List Value) (o : Op) (M : Mem) : Option (Value × Mem) :=
  match o with
  | .move x | .assign x => some (evA t x, M)
  | .pick c a b => match evA t c with | .bool k => some (if k then evA t a else evA t b, M) | _ => none
  | .alloc e => (zeroVT P e).bind fun z => (sizeT P e).map fun u => (.pointer (some ⟨M.length, 0, none⟩), M ++ [.cells z.cells.toList u .live])
  | .box e x => (sizeT P e).map fun u => (.pointer (some ⟨M.length, 0, none⟩), M ++ [.cells (evA t x).cells.toList u .live])
  | .build ty parts => (builtA P ty (evParts t parts)).map (·, M)
  | .buildSlice ty n parts => (elemT P ty).bind fun e => (litCells P e n (evParts t parts)).map fun q => (.slice (some ⟨M.length, 0, none⟩) n n, M ++ [.cells q.2 q.1 .live])
  | .load ty a => match evA t a with | .pointer (some ⟨x, o, none⟩) => (rdVar P M ty x o).map (·, M) | _ => none
  | .store ty a v => match evA t a with | .pointer (some ⟨x, o, none⟩) => if sizeT P ty = some (evA t v).cells.size then (wrCells M x o (evA t v).cells.toList).map (undef, ·) else none | _ => none
  | .nilCheck x => match evA t x with
    | .pointer (some a) => some (.pointer (some a), M)
    | .func (.func f) a b => some (.func (.func f) a b, M)
    | .func (.yield l) a b => some (.func (.yield l) a b, M)
    | _ => none
  | .binOp op ty x y _ => (binA P op ty x y (evA t x) (evA t y)).map (·, M)
  | .unOp op _ x => if plain1 (evA t x) then (keep1 (pureS P (Op.unary op (evA t x)))).map (·, M) else none
  | .convert s d x => if plain1 (evA t x) then (keep1 (pureS P (convert s d (evA t x)))).map (·, M) else none
  | .makeInterface ty x => (kindT P ty).bind fun k => if k = .iface then none else some (.iface ty (evA t x), M)
  | .makeFunc (.func f) first cap => some (.func (.func f) (first.toList.map (evA t)).toArray (cap.toList.map (evA t)).toArray, M)
  | .makeMap _ none => some (.map (some M.length), M ++ [.map []])
  | .makeSlice ty l c => makeA P M ty (evA t l) (evA t c)
  | .slice ty x lo hi mx => if mx.isSome && hi.isNone then none else (sliceA P M ty (evA t x) (lo.map (evA t)) (hi.map (evA t)) (mx.map (evA t))).map (·, M)
  | .fieldAddr ty x f => (fieldAddrA P ty (evA t x) f).map (·, M)
  | .field ty x f => (fieldA P ty (evA t x) f).map (·, M)
  | .indexAddr ty x i => (idxA P ty (evA t x) (evA t i)).map (·, M)
  | .index ty x i => (indexA P ty (evA t x) (evA t i)).map (·, M)
  | .lookup ty m k ok => (lookupA P M ty (evA t m) (evA t k) ok).map (·, M)
  | .mapUpdate ty m k v | .insert ty m k v => (updA P M ty (evA t m) (evA t k) (evA t v)).map (undef, ·)
  | .range ty x => rangeA P M ty (evA t x)
  | .next it true => nextA M (evA t it)
  | .typeAssert x _ ty ok => (assertA P ty (evA t x) ok).map (·, M)
  | .extract x i => (extractA (evA t x) i).map (·, M)
  | .call ⟨.builtin b, args, argTypes⟩ => builtinA P t b argTypes args M
  | _ => none

/-- No operand is a package's variable, or a constant that bears an address. -/
def okOp (o : Op) : Bool := o.operands.toList.all okX

def NextOk (ρ : Rho) (v : Value) (n : Next) : Prop := (∃ v', n = .value v' ∧ VRel ρ v v') ∨ (n = .skip ∧ v = undef)

theorem op_of_does {P : Program} {ρ : Rho} {M M' : Mem} {w : World} {s : Sem Value} {v : Value} (h : Does P ρ M w s v M') : ∃ n w' ρ', ((do pure (.value (← s))) : Sem Next).run P w = .ok n w' ∧ NextOk ρ' v n ∧ Ext ρ M w ρ' M' w' := by
  obtain ⟨v', w', ρ', h1, h2, h3⟩ := h
  exact ⟨.value v', w', ρ', by simp [h1], .inl ⟨v', rfl, h2⟩, h3⟩

theorem VRel.bool_inv {ρ : Rho} {b : Bool} {v' : Value} (h : VRel ρ (.bool b) v') : v' = .bool b := by cases h; rfl
theorem VRel.ptr_inv {ρ : Rho} {x o : Nat} {v' : Value} (h : VRel ρ (.pointer (some ⟨x, o, none⟩)) v') : ∃ p, ρ x = some p ∧ v' = .pointer (some ⟨p.block, p.off + o, none⟩) := by cases h with | ptr e => exact ⟨_, e, rfl⟩
theorem VRel.ptr_some {ρ : Rho} {a : Addr} {v' : Value} (h : VRel ρ (.pointer (some a)) v') : ∃ b, v' = .pointer (some b) := by cases h with | ptr e => exact ⟨_, rfl⟩
theorem VRel.yield_inv {ρ : Rho} {l : Nat} {p q : Array Value} {v' : Value} (h : VRel ρ (.func (.yield l) p q) v') : ∃ b, v' = .func (.yield b) #[] #[] := by cases h with | yield e => exact ⟨_, rfl⟩

set_option maxHeartbeats 4000000 in
theorem op_sound (P : Program) {ρ : Rho} {M M' : Mem} {w : World} (hR : Rel ρ M w) {t : List Value} {a : Act} (o : Oper) (ev : ∀ x, x ∈ o.op.operands.toList → VRel ρ (evA t x) (a.eval x)) {v : Value} (h : opEval P t o.op M = some (v, M')) :
    ∃ n w' ρ', (execOp a.eval o).run P w = .ok n w' ∧ NextOk ρ' v n ∧ Ext ρ M w ρ' M' w' := by
  cases hop : o.op with
  | move x =>
    rw [hop] at h ev; simp only [opEval] at h
    simp only [execOp, hop]
    injection h with h; injection h with h1 h2; subst h1; subst h2
    exact ⟨_, w, ρ, rfl, .inl ⟨_, rfl, ev x (by simp [Op.operands])⟩, Ext.refl hR⟩
  | assign x =>
    rw [hop] at h ev; simp only [opEval] at h
    simp only [execOp, hop]
    injection h with h; injection h with h1 h2; subst h1; subst h2
    exact ⟨_, w, ρ, rfl, .inl ⟨_, rfl, ev x (by simp [Op.operands])⟩, Ext.refl hR⟩
  | pick c x y =>
    rw [hop] at h ev; simp only [opEval] at h
    simp only [execOp, hop]
    have hc := ev c (by simp [Op.operands])
    split at h
    · rename_i k hk
      rw [hk] at hc
      injection h with h; injection h with h1 h2; subst h1; subst h2
      refine ⟨.value (if k = true then a.eval x else a.eval y), w, ρ, ?_, .inl ⟨_, rfl, ?_⟩, Ext.refl hR⟩
      · simp [asBool, hc.bool_inv]
      · cases k
        · exact ev y (by simp [Op.operands])
        · exact ev x (by simp [Op.operands])
    · simp at h
  | alloc e =>
    rw [hop] at h; simp only [opEval] at h
    simp only [execOp, hop]
    cases hz : zeroVT P e with
    | none => simp [hz] at h
    | some z =>
      cases hs : sizeT P e with
      | none => simp [hz, hs] at h
      | some u =>
        simp [hz, hs] at h
        obtain ⟨rfl, rfl⟩ := h
        obtain ⟨hz1, hz2⟩ := run_zeroVT hz w
        refine op_of_does ⟨.pointer (some ⟨w.heap.size, 0, none⟩), w.alloc (.cells z.cells e), ρ.put M.length ⟨w.heap.size, 0, z.cells.size, u⟩, ?_, .ptr (p := ⟨w.heap.size, 0, z.cells.size, u⟩) (Rho.put_same _ _ _), ?_⟩
        · simp only [Instr.alloc, Sem.run_bind, hz1, Result.andThen_ok, newVar, newRow, run_newObj, Sem.run_pure]; rfl
        · exact Ext.newRow hR e _ z.cells u (by rw [List.take_of_length_le (by simp)]; exact all_refl ρ hz2) (by simp) rfl rfl rfl rfl
  | box e x =>
    rw [hop] at h ev; simp only [opEval] at h
    simp only [execOp, hop]
    cases hs : sizeT P e with
    | none => simp [hs] at h
    | some u =>
      simp [hs] at h
      obtain ⟨rfl, rfl⟩ := h
      have hx := (ev x (by simp [Op.operands])).cells
      have hl : (evA t x).cells.size = (a.eval x).cells.size := by have := hx.len; simpa using this
      refine op_of_does ⟨.pointer (some ⟨w.heap.size, 0, none⟩), w.alloc (.cells (a.eval x).cells e), ρ.put M.length ⟨w.heap.size, 0, (a.eval x).cells.size, u⟩, rfl, .ptr (p := ⟨w.heap.size, 0, (a.eval x).cells.size, u⟩) (Rho.put_same _ _ _), ?_⟩
      exact Ext.newRow hR e _ (a.eval x).cells u (by rw [List.take_of_length_le (by simp [hl])]; exact hx) (by simp [hl]) rfl rfl rfl rfl
  | build ty parts =>
    rw [hop] at h ev; simp only [opEval] at h
    simp only [execOp, hop]
    cases hb : builtA P ty (evParts t parts) with
    | none => simp [hb] at h
    | some v0 =>
      simp [hb] at h
      obtain ⟨rfl, rfl⟩ := h
      obtain ⟨g1, g2⟩ := evParts_rel parts (fun q hq => ev q.2 (by simp [Op.operands]; exact ⟨q.1, by simpa using hq⟩))
      obtain ⟨v', h1, h2⟩ := run_builtA P hb (parts' := parts.map fun (i, x) => (i, a.eval x)) g1 g2 w
      exact op_of_does (Does.still hR h1 h2)
  | buildSlice ty n parts =>
    rw [hop] at h ev; simp only [opEval] at h
    simp only [execOp, hop]
    cases he : elemT P ty with
    | none => simp [he] at h
    | some e =>
      cases hb : litCells P e n (evParts t parts) with
      | none => simp [he, hb] at h
      | some q =>
        simp [he, hb] at h
        obtain ⟨rfl, rfl⟩ := h
        obtain ⟨g1, g2⟩ := evParts_rel parts (fun q hq => ev q.2 (by simp [Op.operands]; exact ⟨q.1, by simpa using hq⟩))
        have hd : Does P ρ M w (Instr.buildSlice ty n (parts.map fun (i, x) => (i, a.eval x))) (.slice (some ⟨M.length, 0, none⟩) n n) (M ++ [.cells q.2 q.1 .live]) := run_litCells P hR he (size := q.1) (l := q.2) hb g1 g2
        exact op_of_does hd
  | load ty x =>
    rw [hop] at h ev; simp only [opEval] at h
    simp only [execOp, hop]
    have hx := ev x (by simp [Op.operands])
    split at h
    · rename_i b o hb
      rw [hb] at hx
      cases hr : rdVar P M ty b o with
      | none => simp [hr] at h
      | some v0 =>
        simp [hr] at h
        obtain ⟨rfl, rfl⟩ := h
        obtain ⟨p, e, he⟩ := hx.ptr_inv
        obtain ⟨v', h1, h2⟩ := run_rdVar P hR e hr
        exact op_of_does (Does.still hR (by simp [Instr.loadAt, Instr.sureAddr, he, h1]) h2)
    · simp at h
  | store ty x y =>
    rw [hop] at h ev; simp only [opEval] at h
    simp only [execOp, hop]
    have hx := ev x (by simp [Op.operands])
    have hy := (ev y (by simp [Op.operands])).cells
    split at h
    · rename_i b o hb
      rw [hb] at hx
      split at h
      · rename_i hs
        cases hw : wrCells M b o (evA t y).cells.toList with
        | none => simp [hw] at h
        | some M2 =>
          simp [hw] at h
          obtain ⟨rfl, rfl⟩ := h
          obtain ⟨p, e, he⟩ := hx.ptr_inv
          obtain ⟨w', h1, h2⟩ := run_wrCells P hR e hy hw
          have hl : (a.eval y).cells.size = (evA t y).cells.size := by have := hy.len; simpa using this.symm
          refine ⟨.skip, w', ρ, ?_, .inr ⟨rfl, rfl⟩, h2⟩
          simp [Instr.storeAt, Instr.sureAddr, storeVar, run_sizeT hs w, hl, he, h1]
      · simp at h
    · simp at h
  | nilCheck x =>
    rw [hop] at h ev; simp only [opEval] at h
    simp only [execOp, hop]
    have hx := ev x (by simp [Op.operands])
    split at h
    · rename_i ad hb
      rw [hb] at hx
      injection h with h; injection h with h1 h2; subst h1; subst h2
      obtain ⟨b, he⟩ := hx.ptr_some
      exact ⟨.value (.pointer (some b)), w, ρ, by simp [he], .inl ⟨_, rfl, he ▸ hx⟩, Ext.refl hR⟩
    · rename_i f p q hb
      rw [hb] at hx
      injection h with h; injection h with h1 h2; subst h1; subst h2
      obtain ⟨p', q', he, h1, h2⟩ := hx.fn_inv
      exact ⟨.value (.func (.func f) p' q'), w, ρ, by simp [he], .inl ⟨_, rfl, he ▸ hx⟩, Ext.refl hR⟩
    · rename_i l p q hb
      rw [hb] at hx
      injection h with h; injection h with h1 h2; subst h1; subst h2
      obtain ⟨b, he⟩ := hx.yield_inv
      exact ⟨.value (.func (.yield b) #[] #[]), w, ρ, by simp [he], .inl ⟨_, rfl, he ▸ hx⟩, Ext.refl hR⟩
    · simp at h
  | binOp op ty x y yt =>
    rw [hop] at h ev; simp only [opEval] at h
    simp only [execOp, hop]
    cases hb : binA P op ty x y (evA t x) (evA t y) with
    | none => simp [hb] at h
    | some v0 =>
      simp [hb] at h
      obtain ⟨rfl, rfl⟩ := h
      obtain ⟨h1, h2⟩ := run_binA P hb (ev x (by simp [Op.operands])) (ev y (by simp [Op.operands])) w
      exact op_of_does (Does.still hR h1 (plain1_refl ρ h2))
  | unOp op ty x =>
    rw [hop] at h ev; simp only [opEval] at h
    simp only [execOp, hop]
    split at h
    · rename_i hp
      cases hk : keep1 (pureS P (Op.unary op (evA t x))) with
      | none => simp [hk] at h
      | some v0 =>
        simp [hk] at h
        obtain ⟨rfl, rfl⟩ := h
        obtain ⟨h1, h2⟩ := keep1_some hk
        rw [← plain1_eq hp (ev x (by simp [Op.operands]))] at h1
        exact op_of_does (Does.still hR (pureS_run P _ _ h1 w) (plain1_refl ρ h2))
    · simp at h
  | convert s d x =>
    rw [hop] at h ev; simp only [opEval] at h
    simp only [execOp, hop]
    split at h
    · rename_i hp
      cases hk : keep1 (pureS P (convert s d (evA t x))) with
      | none => simp [hk] at h
      | some v0 =>
        simp [hk] at h
        obtain ⟨rfl, rfl⟩ := h
        obtain ⟨h1, h2⟩ := keep1_some hk
        rw [← plain1_eq hp (ev x (by simp [Op.operands]))] at h1
        exact op_of_does (Does.still hR (pureS_run P _ _ h1 w) (plain1_refl ρ h2))
    · simp at h
  | makeInterface ty x =>
    rw [hop] at h ev; simp only [opEval] at h
    simp only [execOp, hop]
    cases hk : kindT P ty with
    | none => simp [hk] at h
    | some k =>
      simp only [hk, Option.bind_some] at h
      split at h
      · simp at h
      · rename_i hne
        injection h with h; injection h with h1 h2; subst h1; subst h2
        obtain ⟨d, hd, rfl⟩ := kindT_run hk
        refine op_of_does (Does.still hR (v' := .iface ty (a.eval x)) ?_ (.iface ty (ev x (by simp [Op.operands]))))
        cases d <;> simp [tkOf] at hne <;> simp [Instr.makeInterface, run_underlying hd]
  | makeFunc fn first cap =>
    rw [hop] at h ev
    simp only [execOp, hop]
    cases fn with
    | func f =>
      simp only [opEval] at h
      injection h with h; injection h with h1 h2; subst h1; subst h2
      refine op_of_does (Does.still hR (v' := .func (.func f) (first.map a.eval) (cap.map a.eval)) rfl ?_)
      have h1 := LRel.map_of (ρ := ρ) (f := evA t) (g := a.eval) first.toList (fun x hx => ev x (by simp [Op.operands]; exact .inl (by simpa using hx)))
      have h2 := LRel.map_of (ρ := ρ) (f := evA t) (g := a.eval) cap.toList (fun x hx => ev x (by simp [Op.operands]; exact .inr (by simpa using hx)))
      have e1 : (first.toList.map a.eval).toArray = first.map a.eval := by apply Array.ext'; simp
      have e2 : (cap.toList.map a.eval).toArray = cap.map a.eval := by apply Array.ext'; simp
      have := VRel.fn_of f h1 h2
      rwa [e1, e2] at this
    | _ => simp [opEval] at h
  | makeMap ty r =>
    rw [hop] at h
    simp only [execOp, hop]
    cases r with
    | none =>
      simp only [opEval] at h
      injection h with h; injection h with h1 h2; subst h1; subst h2
      refine op_of_does ⟨.map (some w.heap.size), w.alloc (.map #[] 0), ρ.put M.length ⟨w.heap.size, 0, 0, 0⟩, rfl, .map (p := ⟨w.heap.size, 0, 0, 0⟩) (Rho.put_same _ _ _), ?_⟩
      exact Ext.alloc hR (ob := .map #[] 0) rfl rfl rfl rfl rfl ⟨#[], 0, by show (w.heap.push _)[w.heap.size]? = _; simp, rfl, by simp⟩
    | some x => simp [opEval] at h
  | makeSlice ty l c =>
    rw [hop] at h ev; simp only [opEval] at h
    simp only [execOp, hop]
    exact op_of_does (makeA_sound P hR h (ev l (by simp [Op.operands])) (ev c (by simp [Op.operands])))
  | slice ty x lo hi mx =>
    rw [hop] at h ev; simp only [opEval] at h
    simp only [execOp, hop]
    split at h
    · simp at h
    · rename_i hmh
      cases hs : sliceA P M ty (evA t x) (lo.map (evA t)) (hi.map (evA t)) (mx.map (evA t)) with
      | none => simp [hs] at h
      | some v0 =>
        simp [hs] at h
        obtain ⟨rfl, rfl⟩ := h
        refine op_of_does (sliceA_sound P hR hs (ev x (by simp [Op.operands])) ?_ ?_ ?_ ?_ ?_ ?_ ?_)
        · intro y hy
          cases lo with
          | none => simp at hy
          | some l => simp at hy; subst hy; exact ⟨_, rfl, ev l (by simp [Op.operands])⟩
        · intro hy; cases lo with
          | none => rfl
          | some l => simp at hy
        · intro y hy
          cases hi with
          | none => simp at hy
          | some l => simp at hy; subst hy; exact ⟨_, rfl, ev l (by simp [Op.operands])⟩
        · intro hy; cases hi with
          | none => rfl
          | some l => simp at hy
        · intro y hy
          cases mx with
          | none => simp at hy
          | some l => simp at hy; subst hy; exact ⟨_, rfl, ev l (by simp [Op.operands])⟩
        · intro hy; cases mx with
          | none => rfl
          | some l => simp at hy
        · intro hy
          cases hi with
          | none => cases mx with
            | none => simp at hy
            | some l => simp at hmh
          | some l => rfl
  | fieldAddr ty x f =>
    rw [hop] at h ev; simp only [opEval] at h
    simp only [execOp, hop]
    cases hs : fieldAddrA P ty (evA t x) f with
    | none => simp [hs] at h
    | some v0 =>
      simp [hs] at h
      obtain ⟨rfl, rfl⟩ := h
      exact op_of_does (fieldAddrA_sound P hR hs (ev x (by simp [Op.operands])))
  | field ty x f =>
    rw [hop] at h ev; simp only [opEval] at h
    simp only [execOp, hop]
    cases hs : fieldA P ty (evA t x) f with
    | none => simp [hs] at h
    | some v0 =>
      simp [hs] at h
      obtain ⟨rfl, rfl⟩ := h
      exact op_of_does (fieldA_sound P hR hs (ev x (by simp [Op.operands])))
  | indexAddr ty x i =>
    rw [hop] at h ev; simp only [opEval] at h
    simp only [execOp, hop]
    cases hs : idxA P ty (evA t x) (evA t i) with
    | none => simp [hs] at h
    | some v0 =>
      simp [hs] at h
      obtain ⟨rfl, rfl⟩ := h
      exact op_of_does (idxA_sound P hR hs (ev x (by simp [Op.operands])) (ev i (by simp [Op.operands])))
  | index ty x i =>
    rw [hop] at h ev; simp only [opEval] at h
    simp only [execOp, hop]
    cases hs : indexA P ty (evA t x) (evA t i) with
    | none => simp [hs] at h
    | some v0 =>
      simp [hs] at h
      obtain ⟨rfl, rfl⟩ := h
      exact op_of_does (indexA_sound P hR hs (ev x (by simp [Op.operands])) (ev i (by simp [Op.operands])))
  | lookup ty m k ok =>
    rw [hop] at h ev; simp only [opEval] at h
    simp only [execOp, hop]
    cases hs : lookupA P M ty (evA t m) (evA t k) ok with
    | none => simp [hs] at h
    | some v0 =>
      simp [hs] at h
      obtain ⟨rfl, rfl⟩ := h
      exact op_of_does (lookupA_sound P hR hs (ev m (by simp [Op.operands])) (ev k (by simp [Op.operands])))
  | mapUpdate ty m k x =>
    rw [hop] at h ev; simp only [opEval] at h
    simp only [execOp, hop]
    cases hs : updA P M ty (evA t m) (evA t k) (evA t x) with
    | none => simp [hs] at h
    | some M2 =>
      simp [hs] at h
      obtain ⟨rfl, rfl⟩ := h
      obtain ⟨w', h1, h2⟩ := updA_sound P hR hs (ev m (by simp [Op.operands])) (ev k (by simp [Op.operands])) (ev x (by simp [Op.operands]))
      exact ⟨.skip, w', ρ, by simp [h1], .inr ⟨rfl, rfl⟩, h2⟩
  | insert ty m k x =>
    rw [hop] at h ev; simp only [opEval] at h
    simp only [execOp, hop]
    cases hs : updA P M ty (evA t m) (evA t k) (evA t x) with
    | none => simp [hs] at h
    | some M2 =>
      simp [hs] at h
      obtain ⟨rfl, rfl⟩ := h
      obtain ⟨w', h1, h2⟩ := updA_sound P hR hs (ev m (by simp [Op.operands])) (ev k (by simp [Op.operands])) (ev x (by simp [Op.operands]))
      exact ⟨.skip, w', ρ, by simp [h1], .inr ⟨rfl, rfl⟩, h2⟩
  | range ty x =>
    rw [hop] at h ev; simp only [opEval] at h
    simp only [execOp, hop]
    exact op_of_does (rangeA_sound P hR h (ev x (by simp [Op.operands])))
  | next it b =>
    rw [hop] at h ev
    simp only [execOp, hop]
    cases b with
    | true =>
      simp only [opEval] at h
      exact op_of_does (nextA_sound P hR h (ev it (by simp [Op.operands])) o.type)
    | false => simp [opEval] at h
  | typeAssert x xt ty ok =>
    rw [hop] at h ev; simp only [opEval] at h
    simp only [execOp, hop]
    cases hs : assertA P ty (evA t x) ok with
    | none => simp [hs] at h
    | some v0 =>
      simp [hs] at h
      obtain ⟨rfl, rfl⟩ := h
      exact op_of_does (assertA_sound P hR hs (ev x (by simp [Op.operands])))
  | extract x i =>
    rw [hop] at h ev; simp only [opEval] at h
    simp only [execOp, hop]
    cases hs : extractA (evA t x) i with
    | none => simp [hs] at h
    | some v0 =>
      simp [hs] at h
      obtain ⟨rfl, rfl⟩ := h
      exact op_of_does (extractA_sound P hR hs (ev x (by simp [Op.operands])))
  | call c =>
    rw [hop] at h ev
    simp only [execOp, hop]
    obtain ⟨callee, args, argTypes⟩ := c
    cases callee with
    | builtin b =>
      simp only [opEval] at h
      have eva : ∀ x ∈ args.toList, VRel ρ (evA t x) (a.eval x) := fun x hx => ev x (by simp [Op.operands, Call.operands]; simpa using hx)
      have hin : ∀ s : Sem Value, (∀ cs, builtin b argTypes o.type cs (args.map a.eval) = (do pure (.value (← s)))) → ((do let d ← resolve a.eval ⟨.builtin b, args, argTypes⟩ o.type; invoke d.target d.args) : Sem Next) = (do pure (.value (← s))) := by
        intro s hs
        exact hs _
      have argsT : ∀ l, args.toList = l → args = l.toArray := fun l h => by rw [← h]
      have typesT : ∀ l, argTypes.toList = l → argTypes = l.toArray := fun l h => by rw [← h]
      unfold builtinA at h
      split at h
      · rename_i ty x e1 e2
        cases hs : lenA P M ty (evA t x) with
        | none => simp [hs] at h
        | some v0 =>
          simp [hs] at h
          obtain ⟨rfl, rfl⟩ := h
          rw [argsT _ e2, typesT _ e1] at hin
          rw [argsT _ e2, typesT _ e1]
          rw [hin (Builtin.len_ #[ty] o.type #[a.eval x]) (fun cs => by simp [builtin])]
          exact op_of_does (lenA_sound P hR hs (eva x (by simp [e2])) o.type)
      · rename_i ty xty x y e1 e2
        rw [argsT _ e2, typesT _ e1] at hin
        rw [argsT _ e2, typesT _ e1]
        rw [hin (Builtin.append_ #[ty, xty] o.type #[a.eval x, a.eval y]) (fun cs => by simp [builtin])]
        exact op_of_does (appendA_sound P hR h (eva x (by simp [e2])) (eva y (by simp [e2])))
      · rename_i dty sty x y e1 e2
        rw [argsT _ e2, typesT _ e1] at hin
        rw [argsT _ e2, typesT _ e1]
        rw [hin (Builtin.copy_ #[dty, sty] o.type #[a.eval x, a.eval y]) (fun cs => by simp [builtin])]
        exact op_of_does (copyA_sound P hR h (eva x (by simp [e2])) (eva y (by simp [e2])) o.type)
      · split at h
        · rename_i hp
          cases hk : keep1 (pureS P (Builtin.min_ #[] 0 (args.toList.map (evA t)).toArray)) with
          | none => simp [hk] at h
          | some v0 =>
            simp [hk] at h
            obtain ⟨rfl, rfl⟩ := h
            obtain ⟨h1, h2⟩ := keep1_some hk
            have e : (args.toList.map (evA t)).toArray = args.map a.eval := by
              apply Array.ext'
              simp only [Array.toList_map, List.toList_toArray]
              refine List.map_congr_left fun x hx => ?_
              exact (plain1_eq (List.all_eq_true.1 hp _ (List.mem_map_of_mem hx)) (eva x hx)).symm
            rw [e] at h1
            rw [hin (Builtin.min_ #[] 0 (args.map a.eval)) (fun cs => rfl)]
            exact op_of_does (Does.still hR (pureS_run P _ _ h1 w) (plain1_refl ρ h2))
        · simp at h
      · split at h
        · rename_i hp
          cases hk : keep1 (pureS P (Builtin.max_ #[] 0 (args.toList.map (evA t)).toArray)) with
          | none => simp [hk] at h
          | some v0 =>
            simp [hk] at h
            obtain ⟨rfl, rfl⟩ := h
            obtain ⟨h1, h2⟩ := keep1_some hk
            have e : (args.toList.map (evA t)).toArray = args.map a.eval := by
              apply Array.ext'
              simp only [Array.toList_map, List.toList_toArray]
              refine List.map_congr_left fun x hx => ?_
              exact (plain1_eq (List.all_eq_true.1 hp _ (List.mem_map_of_mem hx)) (eva x hx)).symm
            rw [e] at h1
            rw [hin (Builtin.max_ #[] 0 (args.map a.eval)) (fun cs => rfl)]
            exact op_of_does (Does.still hR (pureS_run P _ _ h1 w) (plain1_refl ρ h2))
        · simp at h
      · simp at h
    | value f => simp [opEval] at h
    | invoke r m => simp [opEval] at h
  | _ => rw [hop] at h; simp [opEval] at h

end Go.Proofs.YtabkcbaknjenmaaAM
