/-
  Part KA3 of the proof: merged texts.
-/
import Derived.Test.YtabkcbaknjenmaaKA2
import Derived.RowKit3

/-
  AN ABSTRACT MACHINE OVER THE MODEL, part 18: it is run.
-/
set_option linter.unusedVariables false
set_option linter.unusedSimpArgs false
namespace Go.Proofs.YtabkcbaknjenmaaAM
open Go

abbrev Ask := Task → Option Res

/-- One value of an operation. -/
def valR (P : Program) (ask : Ask) (ops : Array Oper) (i : Nat) (t : List Value) (M : Mem) : Option Res :=
  match ops[i]? with
  | none => none
  | some o => if okOp o.op then
    match opEval P t o.op M with
    | some (v, M') => some (.call (.ret v) M' false)
    | none => match o.op with
      | .call c => match calleeA t c with
        | some (g, args) => if walksIn P g then match ask (.call .normal g args M) with
          | some (.call out M' rc) => some (.call out M' rc)
          | _ => none
          else none
        | none => match yieldA t c with
          | some (l, args) => match ask (.round l args M) with
            | some (.call out M' rc) => some (.call out M' rc)
            | _ => none
          | none => none
      | _ => none
    else none

def isRecover : Op → Bool
  | .call ⟨.builtin .recover, _, _⟩ => true
  | _ => false
def opR (P : Program) (ask : Ask) (fn : FuncId) (rd : Option Nat) (k : Ctx) (ops : Array Oper) (i : Nat) (s : St) : Option Res :=
  match ops[i]? with
  | none => none
  | some o => if wantedA ops s.t o then
    match ask (.val ops i s.t s.M) with
    | some (.call (.ret v) M' _) => some (.code .normal ({ s with M := M' }.put o.dst v))
    | some (.call (.panic v) M' _) => some (.code (.panic v) { s with M := M' })
    | some _ => none
    | none => match o.op with
      | .panic x => if okOp o.op then match evA s.t x with
        | .iface ty v => some (.code (.panic (.iface ty v)) s)
        | _ => none
        else none
      | .defer c => match rd, c.callee with
        | none, .value f => if okOp o.op then match evA s.t f with
          | .func (.func g) first cap => some (.code .normal ({ s with d := .call g (first.toList ++ c.args.toList.map (evA s.t)) cap.toList :: s.d }.put o.dst undef))
          | _ => none
          else none
        | _, _ => none
      | .call c => match rd, k, c.callee with
        | none, .deferred (some v), .builtin .recover => if s.rc = false then some (.code .normal ({ s with rc := true }.put o.dst v)) else none
        | none, .deferred none, .builtin .recover => some (.code .normal (s.put o.dst .nilIface))
        | _, _, _ => none
      | _ => none
    else some (.code .normal (s.put o.dst undef))

/-- The operations of a region that draws its order, in the text's: what each gives and how things stand behind it. -/
def rowR (P : Program) (ask : Ask) (ops : Array Oper) : List Nat → St → Option (List (Value × Bool × St))
  | [], _ => some []
  | i :: l, s => match ops[i]? with
    | none => none
    | some o => if wantedA ops s.t o then
      if heavyOp o.op then match ask (.val ops i s.t s.M) with
        | some (.call (.ret v) M' rc) => let s1 := { s with M := M' }.put o.dst v
          (rowR P ask ops l s1).map fun q => (v, rc, s1) :: q
        | _ => none
      else if okOp o.op then match opEval P s.t o.op s.M with
        | some (v, M') => let s1 := { s with M := M' }.put o.dst v
          (rowR P ask ops l s1).map fun q => (v, false, s1) :: q
        | none => none
        else none
      else let s1 := s.put o.dst undef
        (rowR P ask ops l s1).map fun q => (undef, false, s1) :: q
def trOf (s : St) (q : List (Value × Bool × St)) : Nat → St
  | 0 => s
  | i + 1 => match q[i]? with | some x => x.2.2 | none => s
def sameV : Value → Value → Bool
  | .bool a, .bool b => a == b
  | .int k n, .int k' n' => decide (k = k') && decide (n = n')
  | .string s, .string s' => decide (s = s')
  | .pointer a, .pointer b => decide (a = b)
  | .slice a n c, .slice a' n' c' => decide (a = a') && decide (n = n') && decide (c = c')
  | .map a, .map b => decide (a = b)
  | .nilFunc, .nilFunc => true
  | .nilIface, .nilIface => true
  | _, _ => false
def sameL : List Value → List Value → Bool
  | [], [] => true
  | x :: l, y :: k => sameV x y && sameL l k
  | _, _ => false
def sameO : Option AObj → Option AObj → Bool
  | some (.cells a u m), some (.cells a' u' m') => sameL a a' && decide (u = u') && decide (m = m')
  | none, none => true
  | _, _ => false
theorem sameV_eq : ∀ {a b : Value}, sameV a b = true → a = b := by
  intro a b h
  cases a <;> cases b <;> simp [sameV] at h <;> simp_all
theorem sameL_eq : ∀ {a b : List Value}, sameL a b = true → a = b
  | [], [], _ => rfl
  | x :: l, y :: k, h => by simp only [sameL, Bool.and_eq_true] at h; rw [sameV_eq h.1, sameL_eq h.2]
  | [], _ :: _, h => by simp [sameL] at h
  | _ :: _, [], h => by simp [sameL] at h
theorem sameO_eq {a b : Option AObj} (h : sameO a b = true) : a = b := by
  unfold sameO at h
  split at h
  · simp only [Bool.and_eq_true, decide_eq_true_eq] at h
    obtain ⟨⟨h1, h2⟩, h3⟩ := h
    rw [sameL_eq h1, h2, h3]
  · rfl
  · simp at h
def calmR (ops : Array Oper) (tr : Nat → St) : Bool :=
  (conf ops).all fun q => match ops[q.2]? with
    | none => true
    | some o => !(wantedA ops (tr q.2).t o) || (touchA o.op (tr q.2).t (tr q.2).M.length).all fun x => !(decide (x < (tr q.1).M.length)) || sameO (tr (q.1 + 1)).M[x]? (tr q.1).M[x]?
def drawnR (P : Program) (ask : Ask) (ops : Array Oper) (s : St) : Option Res :=
  if regionOk ops then match rowR P ask ops (List.range ops.size) s with
    | some q => if calmR ops (trOf s q) then some (.code .normal (trOf s q ops.size)) else none
    | none => none
  else none

def codeR (P : Program) (ask : Ask) (fn : FuncId) (rd : Option Nat) (k : Ctx) (c : Code) (s : St) : Option Res :=
  match c with
  | .skip => some (.code .normal s)
  | .seq a b => match ask (.code fn rd k a s) with
    | some (.code .normal s1) => ask (.code fn rd k b s1)
    | some (.code e s1) => some (.code e s1)
    | _ => none
  | .cond x a b => if okX x then match evA s.t x with
    | .bool t => ask (.code fn rd k (if t then a else b) s)
    | _ => none
    else none
  | .block id c => match ask (.code fn rd k c s) with
    | some (.code e s1) => some (.code (e.inBlock id) s1)
    | _ => none
  | .loop c => match ask (.code fn rd k c s) with
    | some (.code .normal s1) => ask (.code fn rd k (.loop c) s1)
    | some (.code e s1) => some (.code e s1)
    | _ => none
  | .exit id => some (.code (.exit id) s)
  | .ret => some (.code .ret s)
  | .region _ ops false => ask (.ops fn rd k ops (List.range ops.size) s)
  | .region _ ops true => drawnR P ask ops s
  | .rangeFunc f params assign body => match rd with
    | some _ => none
    | none => if okX f then match evA s.t f with
      | .func (.func g) first cap => if walksIn P g then
        match ask (.call .normal g (first.toList ++ [.func (.yield (s.M.length + 1)) #[] #[]] ++ cap.toList) (s.M ++ [.defers false, .loop .ready none fn s.t params assign body s.M.length])) with
        | some (.call (.ret _) M2 _) => match M2[s.M.length + 1]? with
          | some (.loop st pd fn' t' ps as bd df) => if st = .busy then none else
            let s1 : St := ⟨s.t, .mark s.M.length :: s.d, M2.set (s.M.length + 1) (.loop .exhausted pd fn' t' ps as bd df), s.rc⟩
            match pd with
            | none => some (.code .normal s1)
            | some (.loop _) => none
            | some j => ask (.code fn none k j s1)
          | _ => none
        | some (.call (.panic v) M2 _) => some (.code (.panic v) ⟨s.t, .mark s.M.length :: s.d, M2, s.rc⟩)
        | _ => none
        else none
      | _ => none
      else none
  | _ => none

def callR (P : Program) (ask : Ask) (k : Ctx) (f : FuncId) (args : List Value) (M : Mem) : Option Res :=
  match P.funcs[f]? with
  | none => none
  | some fn => match fn.body with
    | none => none
    | some c => match ask (.code f none k c (startSt fn args M)) with
      | some (.code .normal s1) => ask (.unwind f k .returning s1)
      | some (.code .ret s1) => ask (.unwind f k .returning s1)
      | some (.code (.panic v) s1) => ask (.unwind f k (.panicking v) s1)
      | _ => none

def roundR (P : Program) (ask : Ask) (l : Nat) (args : List Value) (M : Mem) : Option Res :=
  match M[l]? with
  | some (.loop _ _ fn t ps as bd _) => if args.length = ps.size then
    match ask (.code fn (some l) .normal as ⟨setParams t ps args, [], M, false⟩) with
    | some (.code .normal s1) => match s1.M[l]? with
      | some (.loop .ready pd1 fn1 t1 ps1 as1 bd1 df1) =>
        match ask (.code fn (some l) .normal bd { s1 with M := s1.M.set l (.loop .busy pd1 fn1 t1 ps1 as1 bd1 df1) }) with
        | some (.code e s2) => match s2.M[l]? with
          | some (.loop _ _ fn2 t2 ps2 as2 bd2 df2) => match e with
            | .normal => some (.call (.ret (.bool true)) (s2.M.set l (.loop .ready none fn2 t2 ps2 as2 bd2 df2)) false)
            | .ret => some (.call (.ret (.bool false)) (s2.M.set l (.loop .done (some .ret) fn2 t2 ps2 as2 bd2 df2)) false)
            | .exit id => some (.call (.ret (.bool false)) (s2.M.set l (.loop .done (some (.exit id)) fn2 t2 ps2 as2 bd2 df2)) false)
            | .panic _ => none
          | _ => none
        | _ => none
      | _ => none
    | _ => none
    else none
  | _ => none

def unwindR (P : Program) (ask : Ask) (f : FuncId) (k : Ctx) (m : UMode) (s : St) : Option Res :=
  match s.d with
  | [] => match m with
    | .returning => match P.funcs[f]? with
      | some fn => match resultsA P fn s.t s.M with
        | some v => some (.call (.ret v) s.M s.rc)
        | none => none
      | none => none
    | .panicking v => some (.call (.panic v) s.M s.rc)
  | .mark r :: ds => match s.M[r]? with
    | some (.defers false) => ask (.unwind f k m { s with d := ds, M := s.M.set r (.defers true) })
    | _ => none
  | .call g args cap :: ds => if walksIn P g then match m with
    | .returning => match ask (.call (.deferred none) g (args ++ cap) s.M) with
      | some (.call (.ret _) M' _) => ask (.unwind f k .returning { s with d := ds, M := M' })
      | _ => none
    | .panicking pv => match ask (.call (.deferred (some pv)) g (args ++ cap) s.M) with
      | some (.call (.ret _) M' rc) => ask (.unwind f k (if rc then .returning else .panicking pv) { s with d := ds, M := M' })
      | _ => none
    else none

def taskR (P : Program) (X : FuncId → List Value → Mem → Option (Value × Mem)) (ask : Ask) : Task → Option Res
  | .code fn rd k c s => codeR P ask fn rd k c s
  | .val ops i t M => valR P ask ops i t M
  | .op fn rd k ops i s => opR P ask fn rd k ops i s
  | .ops fn rd k ops l s => match l with
    | [] => some (.code .normal s)
    | i :: l => match ask (.op fn rd k ops i s) with
      | some (.code .normal s1) => ask (.ops fn rd k ops l s1)
      | some (.code e s1) => some (.code e s1)
      | _ => none
  | .call .normal f args M => match X f args M with
    | some (v, M') => some (.call (.ret v) M' false)
    | none => callR P ask .normal f args M
  | .call k f args M => callR P ask k f args M
  | .round l args M => roundR P ask l args M
  | .unwind f k m s => unwindR P ask f k m s

def run (P : Program) (X : FuncId → List Value → Mem → Option (Value × Mem)) : Nat → Task → Option Res
  | 0, _ => none
  | n + 1, t => taskR P X (run P X n) t

end Go.Proofs.YtabkcbaknjenmaaAM

/-
  AN ABSTRACT MACHINE OVER THE MODEL, part 19: what the run gives is what it does.
-/
set_option linter.unusedVariables false
set_option linter.unusedSimpArgs false
namespace Go.Proofs.YtabkcbaknjenmaaAM
open Go
variable {P : Program} {X : FuncId → List Value → Mem → Option (Value × Mem)} {I : FuncId → List Value → Mem → Value → Mem → Prop}

def Good (P : Program) (I : FuncId → List Value → Mem → Value → Mem → Prop) (ask : Ask) : Prop := ∀ t r, ask t = some r → Ev P I t r
section
variable {ask : Ask} (hA : Good P I ask)
include hA

theorem valR_ev {ops i t M r} (h : valR P ask ops i t M = some r) : Ev P I (.val ops i t M) r := by
  unfold valR at h
  split at h
  · simp at h
  rename_i o ho
  split at h
  · rename_i hk
    split at h
    · rename_i v M' hv
      injection h with h; subst h
      exact .valLight ho hk hv
    · split at h
      · rename_i c hop
        split at h
        · rename_i g args hc
          split at h
          · rename_i hw
            split at h
            · rename_i hr
              injection h with h; subst h
              exact .valCall ho hk hop hc hw (hA _ _ hr)
            · simp at h
          · simp at h
        · split at h
          · rename_i l args hc
            split at h
            · rename_i hr
              injection h with h; subst h
              exact .valYield ho hk hop hc (hA _ _ hr)
            · simp at h
          · simp at h
      · simp at h
  · simp at h

theorem opR_ev {fn rd k ops i s r} (h : opR P ask fn rd k ops i s = some r) : Ev P I (.op fn rd k ops i s) r := by
  unfold opR at h
  split at h
  · simp at h
  rename_i o ho
  split at h
  · rename_i hw
    split at h
    · rename_i hr
      injection h with h; subst h
      exact .opVal ho hw (hA _ _ hr)
    · rename_i hr
      injection h with h; subst h
      exact .opValP ho hw (hA _ _ hr)
    · simp at h
    · split at h
      · rename_i x hop
        split at h
        · rename_i hk
          split at h
          · rename_i hv
            injection h with h; subst h
            exact .opPanic ho hw hk hop hv
          · simp at h
        · simp at h
      · rename_i c hop
        split at h
        · rename_i hc
          split at h
          · rename_i hk
            split at h
            · rename_i hf
              injection h with h; subst h
              exact .opDefer ho hw hk hop hc hf
            · simp at h
          · simp at h
        · simp at h
      · rename_i c hop
        split at h
        · rename_i hc
          split at h
          · rename_i hrc
            injection h with h; subst h
            exact .opRecover ho hw hop hc hrc
          · simp at h
        · rename_i hc
          injection h with h; subst h
          exact .opRecoverN ho hw hop hc
        · simp at h
      · simp at h
  · rename_i hw
    injection h with h; subst h
    exact .opSkip ho (by simpa using hw)

/-- A row of a trace. -/
def RowSays (P : Program) (I : FuncId → List Value → Mem → Value → Mem → Prop) (ops : Array Oper) (l : List Nat) (s : St) (q : List (Value × Bool × St)) : Prop :=
  q.length = l.length ∧
    ∀ (m i : Nat) (o : Oper), l[m]? = some i → ops[i]? = some o → ∃ v rc s1, q[m]? = some (v, rc, s1) ∧ s1 = { trOf s q m with M := s1.M }.put o.dst v ∧
      (wantedA ops (trOf s q m).t o = false → v = undef ∧ s1.M = (trOf s q m).M) ∧
      (wantedA ops (trOf s q m).t o = true → heavyOp o.op = false → okOp o.op = true ∧ opEval P (trOf s q m).t o.op (trOf s q m).M = some (v, s1.M)) ∧
      (wantedA ops (trOf s q m).t o = true → heavyOp o.op = true → Ev P I (.val ops i (trOf s q m).t (trOf s q m).M) (.call (.ret v) s1.M rc))
theorem rowR_ev {ops : Array Oper} : ∀ {l : List Nat} {s : St} {q : List (Value × Bool × St)}, rowR P ask ops l s = some q → RowSays P I ops l s q
  | [], s, q, h => by
    simp only [rowR] at h
    injection h with h; subst h
    exact ⟨rfl, fun m i o h => by simp at h⟩
  | i0 :: l, s, q, h => by
    have tr1 : ∀ (x : Value × Bool × St) (q' : List (Value × Bool × St)) (m : Nat), m ≤ q'.length → trOf s (x :: q') (m + 1) = trOf x.2.2 q' m := by
      intro x q' m hm
      cases m with
      | zero => rfl
      | succ m =>
        have : q'[m]? = some q'[m] := List.getElem?_eq_getElem (by omega)
        simp [trOf, this]
    have fin : ∀ {v : Value} {rc : Bool} {s1 : St} {q' : List (Value × Bool × St)} {o : Oper}, ops[i0]? = some o → rowR P ask ops l s1 = some q' → q = (v, rc, s1) :: q' →
        s1 = { s with M := s1.M }.put o.dst v → (wantedA ops s.t o = false → v = undef ∧ s1.M = s.M) →
        (wantedA ops s.t o = true → heavyOp o.op = false → okOp o.op = true ∧ opEval P s.t o.op s.M = some (v, s1.M)) →
        (wantedA ops s.t o = true → heavyOp o.op = true → Ev P I (.val ops i0 s.t s.M) (.call (.ret v) s1.M rc)) → RowSays P I ops (i0 :: l) s q := by
      intro v rc s1 q' o ho hq' hq e1 e2 e3 e4
      obtain ⟨g1, g2⟩ := rowR_ev hq'
      subst hq
      refine ⟨by simp [g1], fun m i o' hm ho' => ?_⟩
      cases m with
      | zero =>
        simp at hm; subst hm
        rw [ho] at ho'; injection ho' with ho'; subst ho'
        exact ⟨v, rc, s1, rfl, e1, e2, e3, e4⟩
      | succ m =>
        simp only [List.getElem?_cons_succ] at hm ⊢
        have hml : m < l.length := (List.getElem?_eq_some_iff.1 hm).1
        rw [tr1 (v, rc, s1) q' m (by omega)]
        exact g2 m i o' hm ho'
    simp only [rowR] at h
    split at h
    · simp at h
    rename_i o ho
    split at h
    · rename_i hw
      split at h
      · rename_i hh
        split at h
        · rename_i v M' rc hr
          cases hq : rowR P ask ops l ({ s with M := M' }.put o.dst v) with
          | none => simp [hq] at h
          | some q' =>
            simp [hq] at h
            exact fin ho hq h.symm rfl (fun h' => by rw [hw] at h'; simp at h') (fun _ h' => by rw [hh] at h'; simp at h') (fun _ _ => hA _ _ hr)
        · simp at h
      · rename_i hh
        split at h
        · rename_i hk
          split at h
          · rename_i v M' hv
            cases hq : rowR P ask ops l ({ s with M := M' }.put o.dst v) with
            | none => simp [hq] at h
            | some q' =>
              simp [hq] at h
              exact fin ho hq h.symm rfl (fun h' => by rw [hw] at h'; simp at h') (fun _ _ => ⟨hk, hv⟩) (fun _ h' => absurd h' hh)
          · simp at h
        · simp at h
    · rename_i hw
      cases hq : rowR P ask ops l (s.put o.dst undef) with
      | none => simp [hq] at h
      | some q' =>
        simp [hq] at h
        exact fin ho hq h.symm rfl (fun _ => ⟨rfl, rfl⟩) (fun h' => absurd h' hw) (fun h' => absurd h' hw)

theorem drawnR_ev {fn rd k id ops s r} (h : drawnR P ask ops s = some r) : Ev P I (.code fn rd k (.region id ops true) s) r := by
  unfold drawnR at h
  split at h
  · rename_i hok
    split at h
    · rename_i q hq
      split at h
      · rename_i hc
        injection h with h; subst h
        obtain ⟨g1, g2⟩ := rowR_ev hA hq
        have hlen : q.length = ops.size := by simpa using g1
        have at_ := fun (i : Nat) (o : Oper) (ho : ops[i]? = some o) => g2 i i o (by rw [List.getElem?_range (Array.getElem?_eq_some_iff.1 ho).1]) ho
        have trs : ∀ i v rc s1, q[i]? = some (v, rc, s1) → trOf s q (i + 1) = s1 := fun i v rc s1 h => by simp [trOf, h]
        refine .regionD (tr := trOf s q) (vs := fun i => match q[i]? with | some x => x.1 | none => undef) (rcs := fun i => match q[i]? with | some x => x.2.1 | none => false) hok rfl (fun i o ho => ?_) (fun i o ho hw => ?_) (fun i o ho hw hh => ?_) (fun i o ho hw hh => ?_) ?_
        · obtain ⟨v, rc, s1, e0, e1, _⟩ := at_ i o ho
          rw [trs i v rc s1 e0, e0]; exact e1
        · obtain ⟨v, rc, s1, e0, e1, e2, _⟩ := at_ i o ho
          rw [trs i v rc s1 e0, e0]; exact e2 hw
        · obtain ⟨v, rc, s1, e0, e1, e2, e3, _⟩ := at_ i o ho
          rw [trs i v rc s1 e0, e0]; exact e3 hw hh
        · obtain ⟨v, rc, s1, e0, e1, e2, e3, e4⟩ := at_ i o ho
          rw [trs i v rc s1 e0, e0]; exact e4 hw hh
        · intro y hy o ho hw x hx hlt
          unfold calmR at hc
          have h1 := List.all_eq_true.1 hc y hy
          simp only [ho, hw, Bool.not_true, Bool.false_or] at h1
          have h2 := List.all_eq_true.1 h1 x hx
          simp only [hlt, decide_true, Bool.not_true, Bool.false_or] at h2
          exact sameO_eq h2
      · simp at h
    · simp at h
  · simp at h

theorem codeR_ev {fn rd k c s r} (h : codeR P ask fn rd k c s = some r) : Ev P I (.code fn rd k c s) r := by
  unfold codeR at h
  split at h
  · injection h with h; subst h; exact .skip
  · split at h
    · rename_i hr
      exact .seqN (hA _ _ hr) (hA _ _ h)
    · rename_i hne hr
      injection h with h; subst h
      exact .seqX (hA _ _ hr) (fun he => hne he)
    · simp at h
  · split at h
    · rename_i hx
      split at h
      · rename_i hc
        exact .cond hx hc (hA _ _ h)
      · simp at h
    · simp at h
  · split at h
    · rename_i hr
      injection h with h; subst h
      exact .block (hA _ _ hr)
    · simp at h
  · split at h
    · rename_i hr
      exact .loopN (hA _ _ hr) (hA _ _ h)
    · rename_i hne hr
      injection h with h; subst h
      exact .loopX (hA _ _ hr) (fun he => hne he)
    · simp at h
  · injection h with h; subst h; exact .exit
  · injection h with h; subst h; exact .ret
  · exact .region (hA _ _ h)
  · exact drawnR_ev hA h
  · split at h
    · simp at h
    · split at h
      · rename_i hx
        split at h
        · rename_i hf
          split at h
          · rename_i hwk
            split at h
            · rename_i hr
              split at h
              · rename_i hl
                split at h
                · simp at h
                · rename_i hb
                  split at h
                  · injection h with h; subst h
                    exact .rangeFn hx hf hwk (hA _ _ hr) hl hb
                  · simp at h
                  · rename_i hnl
                    exact .rangeFnJ hx hf hwk (hA _ _ hr) hl hb (fun bd hj => hnl bd (by rw [hj])) (hA _ _ h)
              · simp at h
            · rename_i hr
              injection h with h; subst h
              exact .rangeFnP hx hf hwk (hA _ _ hr)
            · simp at h
          · simp at h
        · simp at h
      · simp at h
  · simp at h

theorem callR_ev {k f args M r} (h : callR P ask k f args M = some r) : Ev P I (.call k f args M) r := by
  unfold callR at h
  split at h
  · simp at h
  · rename_i hf
    split at h
    · simp at h
    · rename_i hb
      split at h
      · rename_i hr
        exact .callBody hf hb (hA _ _ hr) (.inl rfl) (hA _ _ h)
      · rename_i hr
        exact .callBody hf hb (hA _ _ hr) (.inr rfl) (hA _ _ h)
      · rename_i hr
        exact .callPanic hf hb (hA _ _ hr) (hA _ _ h)
      · simp at h

theorem roundR_ev {l args M r} (h : roundR P ask l args M = some r) : Ev P I (.round l args M) r := by
  unfold roundR at h
  split at h
  · rename_i hl
    split at h
    · rename_i hn
      split at h
      · rename_i ha
        split at h
        · rename_i hl1
          split at h
          · rename_i hb
            split at h
            · rename_i hl2
              split at h
              · injection h with h; subst h
                exact .round hl hn (hA _ _ ha) hl1 (hA _ _ hb) hl2 (.inl ⟨rfl, rfl⟩)
              · injection h with h; subst h
                exact .round hl hn (hA _ _ ha) hl1 (hA _ _ hb) hl2 (.inr (.inl ⟨rfl, rfl⟩))
              · injection h with h; subst h
                exact .round hl hn (hA _ _ ha) hl1 (hA _ _ hb) hl2 (.inr (.inr ⟨_, rfl, rfl⟩))
              · simp at h
            · simp at h
          · simp at h
        · simp at h
      · simp at h
    · simp at h
  · simp at h

theorem unwindR_ev {f k m s r} (h : unwindR P ask f k m s = some r) : Ev P I (.unwind f k m s) r := by
  unfold unwindR at h
  split at h
  · rename_i hd
    split at h
    · split at h
      · rename_i hf
        split at h
        · rename_i hr
          injection h with h; subst h
          exact .unwRet hf hd hr
        · simp at h
      · simp at h
    · injection h with h; subst h
      exact .unwPanic hd
  · rename_i hd
    split at h
    · rename_i hm
      exact .unwMark hd hm (hA _ _ h)
    · simp at h
  · rename_i hd
    split at h
    · rename_i hw
      split at h
      · split at h
        · rename_i hr
          exact .unwCall hd hw (hA _ _ hr) (hA _ _ h)
        · simp at h
      · split at h
        · rename_i hr
          exact .unwCallP hd hw (hA _ _ hr) (hA _ _ h)
        · simp at h
    · simp at h

theorem taskR_ev (hX : ∀ f args M v M', X f args M = some (v, M') → I f args M v M') {t r} (h : taskR P X ask t = some r) : Ev P I t r := by
  cases t with
  | code fn rd k c s => exact codeR_ev hA h
  | val ops i t M => exact valR_ev hA h
  | op fn rd k ops i s => exact opR_ev hA h
  | ops fn rd k ops l s =>
    cases l with
    | nil => simp only [taskR] at h; injection h with h; subst h; exact .opsNil
    | cons i l =>
      simp only [taskR] at h
      split at h
      · rename_i hr
        exact .opsCons (hA _ _ hr) (hA _ _ h)
      · rename_i hne hr
        injection h with h; subst h
        exact .opsConsX (hA _ _ hr) (fun he => hne he)
      · simp at h
  | call k f args M =>
    cases k with
    | normal =>
      simp only [taskR] at h
      split at h
      · rename_i hx
        injection h with h; subst h
        exact .intr (hX _ _ _ _ _ hx)
      · exact callR_ev hA h
    | deferred pv => exact callR_ev hA h
  | round l args M => exact roundR_ev hA h
  | unwind f k m s => exact unwindR_ev hA h
end

theorem run_ev (hX : ∀ f args M v M', X f args M = some (v, M') → I f args M v M') : ∀ (n : Nat), Good P I (run P X n)
  | 0, t, r, h => by simp [run] at h
  | n + 1, t, r, h => taskR_ev (run_ev hX n) hX h

end Go.Proofs.YtabkcbaknjenmaaAM

/-
  AN ABSTRACT MACHINE OVER THE MODEL, part 20: from what it does to what the model's call does; calls that leave nothing behind.
-/
set_option linter.unusedVariables false
set_option linter.unusedSimpArgs false
namespace Go.Proofs.YtabkcbaknjenmaaAM
open Go Go.RowKit
variable {P : Program}

theorem frozen_of_frz {w w' : World} (h : ∀ k : Nat, frzO w'.heap[k]? = frzO w.heap[k]?) (a : Addr) : w'.frozen? a = w.frozen? a := by
  have at_ : ∀ w : World, w.frozen? a = (decide ((frzO w.heap[a.block]?).1 ≤ a.off) && decide (a.off < (frzO w.heap[a.block]?).2)) := by
    intro w
    unfold World.frozen? frzO
    split <;> simp_all
  rw [at_ w', at_ w, h]
theorem keptBut_of_same {w w' : World} (ho : w'.os = w.os) (hu : w'.output = w.output) (hk : ∀ k, k < w.heap.size → w'.heap[k]? = w.heap[k]?) (may : MemPlace → Prop) : w.keptBut w' may := by
  refine ⟨ho, hu, fun i hi => ?_⟩
  rw [hk i hi]
  have : w.heap[i]? = some w.heap[i] := by simp [hi]
  rw [this]
  cases w.heap[i] <;> simp
/-- What runs where nothing may be written leaves all that is. -/
theorem grown_of_ext {ρ ρ' : Rho} {M M' : Mem} {w w' : World} (h : Ext ρ M w ρ' M' w') (hn : ∀ k, ¬ Wb ρ M k) : Grown w w' :=
  ⟨keptBut_of_same h.os h.output (fun k hk => h.kept k hk (hn k)) _, frozen_of_frz h.frz, h.size⟩

theorem calls_of_says {f : FuncId} {args : List Value} {M M' : Mem} {v : Value} {rc : Bool} (h : SCall P .normal f args M (.ret v) M' rc) {ρ : Rho} {w : World} {argsC : Array Value} (hR : Rel ρ M w) (ha : LRel ρ args argsC.toList) (hn : ∀ k, ¬ Wb ρ M k) (hv : plain1 v = true) :
    Calls P f argsC w fun e w' => e = .returned v ∧ Grown w w' := by
  intro cs
  obtain ⟨ρ', w', fr, h1, h2, h3, h4, h5, h6, h7, fn, v', h8, h9, h10⟩ := h ρ w argsC (fun _ => cs) hR ha (fun _ => rfl)
  have hvv := plain1_eq hv h10
  subst hvv
  exact ⟨.returned v', w', fr, ⟨rfl, grown_of_ext h1 hn⟩, h2, h3, h7, h4, h5, fn, by rw [h3]; exact h8, h9⟩

def Rho0 : Rho := fun _ => none
theorem rel0 (w : World) : Rel Rho0 [] w := ⟨fun _ _ e => by simp [Rho0] at e, fun _ _ e => by simp [Rho0] at e, fun _ _ _ _ _ _ e => by simp [Rho0] at e⟩
theorem wb0 (k : Nat) : ¬ Wb Rho0 [] k := by rintro ⟨x, p, o, e, _⟩; simp [Rho0] at e

/-- A call without any address in its arguments and answer, that writes nothing that was: it may be taken as leaving the memory as it is. -/
theorem forget {f : FuncId} {args : List Value} {v : Value} {M' : Mem} {rc : Bool} (h : SCall P .normal f args [] (.ret v) M' rc) (ha : args.all plain1 = true) (hv : plain1 v = true) (hrc : rc = false) (M : Mem) : SCall P .normal f args M (.ret v) M false := by
  subst hrc
  intro ρ w argsC Cs hR hargs hCs
  have hA : LRel Rho0 args argsC.toList := by
    refine ⟨hargs.len, fun i x x' hx hx' => ?_⟩
    have hp := List.all_eq_true.1 ha x (List.mem_of_getElem? hx)
    have := plain1_eq hp (hargs.at_ i x x' hx hx')
    subst this
    exact plain1_refl _ hp
  obtain ⟨ρ', w', fr, h1, h2, h3, h4, h5, h6, h7, fn, v', h8, h9, h10⟩ := h Rho0 w argsC Cs (rel0 w) hA hCs
  have hvv := plain1_eq hv h10
  subst hvv
  have hk : ∀ k, k < w.heap.size → w'.heap[k]? = w.heap[k]? := fun k hk => h1.kept k hk (wb0 k)
  refine ⟨ρ, w', fr, ?_, h2, h3, h4, h5, h6, h7, fn, v', h8, h9, plain1_refl ρ hv⟩
  have hsz := h1.size
  exact ⟨⟨fun x p e => by obtain ⟨o, a, b⟩ := hR.obj x p e; exact ⟨o, a, b.of_block (hk _ (hR.blk x p e))⟩, fun x p e => Nat.lt_of_lt_of_le (hR.blk x p e) hsz, hR.sep⟩,
    Rho.le_refl ρ, fun x p e => .inl ⟨p, e⟩, fun x a b => by omega, Nat.le_refl _, h1.os, h1.tape, h1.output, hsz, fun k a _ => hk k a, fun k a _ => a, fun x o _ e a => ⟨o, e, a, id⟩,
    fun x o h e _ => by rw [List.getElem?_eq_none h] at e; simp at e, h1.frz⟩

end Go.Proofs.YtabkcbaknjenmaaAM

/-
  AN ABSTRACT MACHINE OVER THE MODEL, part 21: quick answers of binary operations, for the kernel.
-/
set_option linter.unusedVariables false
set_option linter.unusedSimpArgs false
namespace Go.Proofs.YtabkcbaknjenmaaAM
open Go
variable {P : Program}

def kMax : IntKind → Nat
  | .i8 => 128 | .i16 => 32768 | .i32 => 2147483648 | .i64 => 9223372036854775808
  | .u8 => 256 | .u16 => 65536 | .u32 => 4294967296 | .u64 => 18446744073709551616
def kNeg : IntKind → Nat
  | .i8 => 128 | .i16 => 32768 | .i32 => 2147483648 | .i64 => 9223372036854775808
  | _ => 0
def wrapF (k : IntKind) : Int → Int
  | .ofNat m => match Nat.blt m (kMax k) with | true => .ofNat m | false => k.wrap (.ofNat m)
  | .negSucc m => match Nat.blt m (kNeg k) with | true => .negSucc m | false => k.wrap (.negSucc m)
theorem wrap_id (k : IntKind) {n : Int} (h1 : -(kNeg k : Int) ≤ n) (h2 : n < (kMax k : Int)) : k.wrap n = n := by
  cases k <;> simp only [kNeg, kMax] at h1 h2 <;> simp [IntKind.wrap, IntKind.bits, IntKind.signed] <;> omega
theorem wrapF_eq (k : IntKind) (n : Int) : wrapF k n = k.wrap n := by
  unfold wrapF
  split
  · split
    · rename_i m _ h
      have h' : m < kMax k := by simpa [Nat.blt_eq] using h
      exact (wrap_id k (by have : (0 : Int) ≤ (kNeg k : Int) := by omega
                           show -(kNeg k : Int) ≤ (m : Int)
                           omega) (by show (m : Int) < _; omega)).symm
    · rfl
  · split
    · rename_i m _ h
      have h' : m < kNeg k := by simpa [Nat.blt_eq] using h
      exact (wrap_id k (by rw [Int.negSucc_eq]; omega) (by rw [Int.negSucc_eq]; omega)).symm
    · rfl
def leF : Int → Int → Bool
  | .ofNat a, .ofNat b => Nat.ble a b
  | .ofNat _, .negSucc _ => false
  | .negSucc _, .ofNat _ => true
  | .negSucc a, .negSucc b => Nat.ble b a
theorem leF_eq (a b : Int) : leF a b = decide (a ≤ b) := by
  cases a with
  | ofNat a => cases b with
    | ofNat b =>
      show Nat.ble a b = decide ((a : Int) ≤ (b : Int))
      rw [Bool.eq_iff_iff]; simp [Nat.ble_eq]
    | negSucc b => show false = _; rw [Int.negSucc_eq]; symm; rw [decide_eq_false_iff_not]; show ¬ ((a : Int) ≤ _); omega
  | negSucc a => cases b with
    | ofNat b => show true = _; rw [Int.negSucc_eq]; symm; rw [decide_eq_true_iff]; show _ ≤ (b : Int); omega
    | negSucc b =>
      show Nat.ble b a = _
      rw [Int.negSucc_eq, Int.negSucc_eq, Bool.eq_iff_iff]
      simp only [Nat.ble_eq, decide_eq_true_iff]
      omega
def eqF : Int → Int → Bool
  | .ofNat a, .ofNat b => Nat.beq a b
  | .negSucc a, .negSucc b => Nat.beq a b
  | _, _ => false
theorem eqF_eq (a b : Int) : eqF a b = (a == b) := by
  cases a with
  | ofNat a => cases b with
    | ofNat b => show Nat.beq a b = ((a : Int) == (b : Int)); rw [Bool.eq_iff_iff]; simp only [Nat.beq_eq, beq_iff_eq]; omega
    | negSucc b => rfl
  | negSucc a => cases b with
    | ofNat b => rfl
    | negSucc b =>
      show Nat.beq a b = (Int.negSucc a == Int.negSucc b)
      rw [Bool.eq_iff_iff]; simp [Nat.beq_eq]

/-- A text as one number. -/
def bcode : List UInt8 → Nat
  | [] => 1
  | x :: l => Nat.add x.toNat (Nat.mul 256 (bcode l))
theorem bcode_pos : ∀ l, 1 ≤ bcode l
  | [] => Nat.le_refl _
  | x :: l => by have := bcode_pos l; simp only [bcode, Nat.add_eq, Nat.mul_eq]; omega
theorem bcode_inj : ∀ {a b : List UInt8}, bcode a = bcode b → a = b
  | [], [], _ => rfl
  | [], y :: b, h => by have := bcode_pos b; simp only [bcode, Nat.add_eq, Nat.mul_eq] at h; omega
  | x :: a, [], h => by have := bcode_pos a; simp only [bcode, Nat.add_eq, Nat.mul_eq] at h; omega
  | x :: a, y :: b, h => by
    have hx := x.toNat_lt
    have hy := y.toNat_lt
    simp only [bcode, Nat.add_eq, Nat.mul_eq] at h
    have h1 : x.toNat = y.toNat := by omega
    have h2 : bcode a = bcode b := by omega
    rw [UInt8.toNat_inj.1 h1, bcode_inj h2]
def scode (s : ByteArray) : Nat := bcode s.data.toList
def eqS (a b : ByteArray) : Bool := Nat.beq (scode a) (scode b)
theorem eqS_eq (a b : ByteArray) : eqS a b = (a.toList == b.toList) := by
  rw [ByteArray.toList_eq, ByteArray.toList_eq, Bool.eq_iff_iff]
  simp only [eqS, scode, Nat.beq_eq, beq_iff_eq]
  exact ⟨fun h => bcode_inj h, fun h => by rw [h]⟩

def kEq : IntKind → IntKind → Bool
  | .i64, .i64 | .i32, .i32 | .u8, .u8 | .i8, .i8 | .i16, .i16 | .u16, .u16 | .u32, .u32 | .u64, .u64 => true
  | _, _ => false
theorem kEq_eq {a b : IntKind} (h : kEq a b = true) : a = b := by cases a <;> cases b <;> first | rfl | (simp [kEq] at h)
def binF : BinOp → Value → Value → Option Value
  | op, .int k a, .int k' b => match kEq k k' with
    | true => match op with
      | .add => some (.int k (wrapF k (Int.add a b)))
      | .sub => some (.int k (wrapF k (Int.sub a b)))
      | .mul => some (.int k (wrapF k (Int.mul a b)))
      | .eql => some (.bool (eqF a b))
      | .neq => some (.bool (!(eqF a b)))
      | .lss => some (.bool (!(leF b a)))
      | .leq => some (.bool (leF a b))
      | .gtr => some (.bool (!(leF a b)))
      | .geq => some (.bool (leF b a))
      | _ => none
    | false => none
  | .eql, .string a, .string b => some (.bool (eqS a b))
  | .neq, .string a, .string b => some (.bool (!(eqS a b)))
  | _, _, _ => none
theorem binF_binA {op : BinOp} {a b v : Value} (h : binF op a b = some v) (ty : TypeId) (x y : Operand) : binA P op ty x y a b = some v := by
  unfold binF at h
  split at h
  · rename_i k a k' b
    split at h
    · rename_i hk
      have := kEq_eq hk
      subst this
      have key : ∀ u : Value, plain1 u = true → pureS P (do eqGuard op ty x y (.int k a) (.int k b); binOp op ty (.int k a) (.int k b)) = some u → binA P op ty x y (.int k a) (.int k b) = some u := by
        intro u hu h
        unfold binA
        rw [if_pos (show (plain1 (Value.int k a) && plain1 (Value.int k b)) = true from rfl), h]
        simp only [keep1, Option.bind_some]
        exact if_pos hu
      have none_ : ∀ q : Sem Value, (pure () >>= fun _ => q : Sem Value) = q := fun _ => rfl
      split at h <;> first | (simp at h; done) | (injection h with h; subst h; refine key _ rfl ?_)
      all_goals simp only [eqGuard, binOp, Op.intArith, Op.intCmp, wrapF_eq, leF_eq, eqF_eq, ne_eq, not_true_eq_false, if_false]
      all_goals first
        | rfl
        | (show some (Value.bool (decide (a < b))) = _; congr 2; rw [Bool.eq_iff_iff]; simp)
        | (show some (Value.bool (decide (a > b))) = _; congr 2; rw [Bool.eq_iff_iff]; simp)
    · simp at h
  · rename_i a b
    injection h with h; subst h
    unfold binA
    rw [eqS_eq]
    rfl
  · rename_i a b
    injection h with h; subst h
    unfold binA
    rw [eqS_eq]
    rfl
  · simp at h

end Go.Proofs.YtabkcbaknjenmaaAM

/-
  AN ABSTRACT MACHINE OVER THE MODEL, part 22: a run that is quick in the kernel: operations.
-/
set_option linter.unusedVariables false
set_option linter.unusedSimpArgs false
namespace Go.Proofs.YtabkcbaknjenmaaAM
open Go
variable {P : Program}

noncomputable def nthN {α : Type} (l : List α) : Nat → Option α :=
  List.rec (motive := fun _ => Nat → Option α) (fun _ => none) (fun x _ ih n => Nat.rec (motive := fun _ => Option α) (some x) (fun m _ => ih m) n) l
theorem nthN_eq {α : Type} : ∀ (l : List α) (n : Nat), nthN l n = l[n]?
  | [], n => rfl
  | x :: l, 0 => rfl
  | x :: l, n + 1 => nthN_eq l n
noncomputable def setN {α : Type} (l : List α) : Nat → α → List α :=
  List.rec (motive := fun _ => Nat → α → List α) (fun _ _ => []) (fun x xs ih n v => Nat.rec (motive := fun _ => List α) (v :: xs) (fun m _ => x :: ih m v) n) l
theorem setN_eq {α : Type} : ∀ (l : List α) (n : Nat) (v : α), setN l n v = l.set n v
  | [], n, v => rfl
  | x :: l, 0, v => rfl
  | x :: l, n + 1, v => by
    show x :: setN l n v = x :: l.set n v
    rw [setN_eq l n v]
noncomputable def evF (t : List Value) : Operand → Value
  | .tmp i => match nthN t i with | some v => v | none => undef
  | .const v => v
  | .global _ => undef
  | .func f => .func (.func f) #[] #[]
theorem evF_eq (t : List Value) (x : Operand) : evF t x = evA t x := by
  cases x with
  | tmp i =>
    show (match nthN t i with | some v => v | none => undef) = t.getD i undef
    rw [nthN_eq, List.getD_eq_getElem?_getD]
    cases t[i]? <;> rfl
  | _ => rfl
noncomputable def putF (t : List Value) : Option Tmp → Value → List Value
  | some d, v => setN t d v
  | none, _ => t
theorem putF_eq (t : List Value) (d : Option Tmp) (v : Value) : putF t d v = putA t d v := by
  cases d with
  | none => rfl
  | some d => exact setN_eq t d v

/-- One cell, no more. -/
def scalarT (P : Program) (ty : TypeId) : Bool := match kindT P ty with | some k => !aggK k | none => false
theorem scalarT_spec {ty : TypeId} (h : scalarT P ty = true) : ∃ k, kindT P ty = some k ∧ aggK k = false := by
  unfold scalarT at h
  split at h
  · rename_i k hk; exact ⟨k, hk, by simpa using h⟩
  · simp at h

def size1T (P : Program) (ty : TypeId) : Bool := match sizeT P ty with | some n => Nat.beq n 1 | none => false
theorem size1T_spec {ty : TypeId} (h : size1T P ty = true) : sizeT P ty = some 1 := by
  unfold size1T at h
  split at h
  · rename_i n hn; rw [hn, Nat.eq_of_beq_eq_true h]
  · simp at h
theorem splice_one : ∀ (vs : List Value) (o : Nat) (v : Value), o < vs.length → splice vs o [v] = vs.set o v
  | x :: vs, 0, v, _ => by simp [splice]
  | x :: vs, o + 1, v, h => by
    have := splice_one vs o v (by simpa using h)
    simp [splice] at this ⊢
    exact this
theorem decode_low {s : ByteArray} {pos : Nat} {b : UInt8} (h : s.data.toList[pos]? = some b) (hb : b.toNat < 128) : Utf8.decode s pos = (b.toNat, 1) := by
  have h1 : s.data[pos]? = some b := by simpa using h
  have h2 : s.get! pos = b := by
    show s.data[pos]! = b
    rw [getElem!_def, h1]
  unfold Utf8.decode
  simp only [Nat.add_zero, h2]
  rw [if_pos hb]

noncomputable def opF (P : Program) (t : List Value) (o : Op) (M : Mem) : Option (Value × Mem) :=
  match o with
  | .move x | .assign x => some (evF t x, M)
  | .pick c a b => match evF t c with
    | .bool true => some (evF t a, M)
    | .bool false => some (evF t b, M)
    | _ => none
  | .binOp op ty x y z => match binF op (evF t x) (evF t y) with
    | some v => some (v, M)
    | none => opEval P t (.binOp op ty x y z) M
  | .load ty a => match scalarT P ty with
    | true => match evF t a with
      | .pointer (some ⟨x, o, none⟩) => match nthN M x with
        | some (.cells vs _ .live) | some (.cells vs _ .ro) => match nthN vs o with | some v => some (v, M) | none => none
        | _ => none
      | _ => none
    | false => opEval P t (.load ty a) M
  | .extract x i => match evF t x with
    | .tuple ⟨vs⟩ => match nthN vs i with | some v => some (v, M) | none => none
    | _ => none
  | .next it true => match evF t it with
    | .pointer (some ⟨r, 0, none⟩) => match nthN M r with
      | some (.siter s pos) => match nthN s.data.toList pos with
        | some b => match Nat.blt b.toNat 128 with
          | true => some (.tuple #[.bool true, .int .i64 (.ofNat pos), .int .i32 (.ofNat b.toNat)], setN M r (.siter s (Nat.add pos 1)))
          | false => opEval P t (.next it true) M
        | none => some (.tuple #[.bool false], M)
      | _ => none
    | _ => none
  | .indexAddr ty x i => match evF t x, evF t i with
    | .slice (some ⟨b, o, none⟩) n _, .int _ (.ofNat k) => match Nat.blt k n with
      | true => match (elemT P ty).bind (sizeT P) with
        | some size => some (.pointer (some ⟨b, Nat.add o (Nat.mul k size), none⟩), M)
        | none => none
      | false => none
    | _, _ => none
  | .unOp .not _ x => match evF t x with
    | .bool true => some (.bool false, M)
    | .bool false => some (.bool true, M)
    | _ => none
  | .store ty a v => match size1T P ty with
    | true => match evF t a with
      | .pointer (some ⟨x, o, none⟩) => match nthN M x with
        | some (.cells vs u .live) => match nthN vs o with
          | some _ => match (evF t v).oneCell' with
            | true => some (undef, setN M x (.cells (setN vs o (evF t v)) u .live))
            | false => none
          | none => none
        | _ => none
      | _ => none
    | false => opEval P t (.store ty a v) M
  | o => opEval P t o M

theorem opF_eval {t : List Value} {o : Op} {M : Mem} {r : Value × Mem} (h : opF P t o M = some r) : opEval P t o M = some r := by
  unfold opF at h
  split at h
  · rw [evF_eq] at h; exact h
  · rw [evF_eq] at h; exact h
  · rename_i c a b
    simp only [evF_eq] at h
    simp only [opEval]
    split at h
    · rename_i hc; rw [hc]; exact h
    · rename_i hc; rw [hc]; exact h
    · simp at h
  · rename_i op ty x y z
    simp only [evF_eq] at h
    split at h
    · rename_i v hv
      injection h with h; subst h
      simp only [opEval, binF_binA hv]
      rfl
    · exact h
  · rename_i ty a
    simp only [evF_eq] at h
    split at h
    · rename_i hs
      obtain ⟨k, hk, hg⟩ := scalarT_spec hs
      have fin : ∀ {x o : Nat} {vs : List Value} {u : Nat} {m : Mode}, evA t a = .pointer (some ⟨x, o, none⟩) → M[x]? = some (.cells vs u m) → m ≠ .dead → (match nthN vs o with | some v => some (v, M) | none => none) = some r → opEval P t (.load ty a) M = some r := by
        intro x o vs u m ha hM hm h
        rw [nthN_eq] at h
        split at h
        · rename_i v hv
          injection h with h; subst h
          have hlt := (List.getElem?_eq_some_iff.1 hv).1
          have h1 : rdCells M x o 1 = some [v] := by
            unfold rdCells
            rw [hM]
            simp only
            rw [if_neg (by intro hh; rcases hh with hh | hh <;> first | exact hm hh | omega)]
            congr 1
            rw [List.take_one, List.head?_drop, hv]; rfl
          simp only [opEval, ha, rdVar, hk, Option.bind_some, hg, h1]
          rfl
        · simp at h
      split at h
      · rename_i x o ha
        rw [nthN_eq] at h
        split at h
        · rename_i hM; exact fin ha hM (by simp) h
        · rename_i hM; exact fin ha hM (by simp) h
        · simp at h
      · simp at h
    · exact h
  · rename_i x i
    simp only [evF_eq] at h
    split at h
    · rename_i vs hx
      rw [nthN_eq] at h
      simp only [opEval, extractA, hx]
      split at h
      · rename_i v hv
        injection h with h; subst h
        have hv2 : (Array.mk vs)[i]? = some v := by simpa using hv
        rw [hv2]; rfl
      · simp at h
    · simp at h
  · rename_i it
    simp only [evF_eq] at h
    split at h
    · rename_i r hit
      simp only [nthN_eq] at h
      split at h
      · rename_i s pos hM
        split at h
        · rename_i b hb
          split at h
          · rename_i hlt
            injection h with h; subst h
            have hlt' : b.toNat < 128 := by simpa [Nat.blt_eq] using hlt
            have hps : pos < s.size := by
              have := (List.getElem?_eq_some_iff.1 hb).1
              show pos < s.data.size
              simpa using this
            show nextA M (evA t it) = _
            unfold nextA
            rw [hit]
            simp only [hM]
            rw [if_pos hps, decode_low hb hlt', setN_eq]
            rfl
          · exact h
        · rename_i hb
          injection h with h; subst h
          have hps : ¬ pos < s.size := by
            rw [List.getElem?_eq_none_iff] at hb
            show ¬ pos < s.data.size
            simpa using hb
          show nextA M (evA t it) = _
          unfold nextA
          rw [hit]
          simp only [hM]
          rw [if_neg hps]
      · simp at h
    · simp at h
  · rename_i ty x i
    simp only [evF_eq] at h
    split at h
    · rename_i b o n c kk k hx hi
      split at h
      · rename_i hlt
        split at h
        · rename_i size hsz
          injection h with h; subst h
          have hlt' : k < n := by simpa [Nat.blt_eq] using hlt
          simp only [opEval, idxA, hx, hi]
          cases he : elemT P ty with
          | none => simp [he] at hsz
          | some e =>
            simp [he] at hsz
            simp only [Option.bind_some, hsz]
            rw [if_pos ⟨by show (0 : Int) ≤ (k : Int); omega, by show (k : Int) < (n : Int); omega⟩]
            rfl
        · simp at h
      · simp at h
    · simp at h
  · rename_i ty x
    simp only [evF_eq] at h
    split at h
    · rename_i hx
      injection h with h; subst h
      simp only [opEval, hx]; rfl
    · rename_i hx
      injection h with h; subst h
      simp only [opEval, hx]; rfl
    · simp at h
  · rename_i ty a v
    simp only [evF_eq] at h
    split at h
    · rename_i hs
      have hs := size1T_spec hs
      split at h
      · rename_i x o ha
        simp only [nthN_eq] at h
        split at h
        · rename_i vs u hM
          split at h
          · rename_i old hold
            split at h
            · rename_i h1
              injection h with h; subst h
              have hlt := (List.getElem?_eq_some_iff.1 hold).1
              have hc : (evA t v).cells = #[evA t v] := by
                cases hv : evA t v <;> simp_all [Value.oneCell', Value.cells]
              simp only [opEval, ha, hc]
              rw [if_pos (show sizeT P ty = some #[evA t v].size from hs)]
              unfold wrCells
              simp only [hM]
              rw [if_pos ⟨by show o + 1 ≤ vs.length; omega, by simpa using h1⟩]
              simp only [setN_eq, Option.map_some]
              rw [splice_one _ _ _ hlt]
            · simp at h
          · simp at h
        · simp at h
      · simp at h
    · exact h
  · exact h

end Go.Proofs.YtabkcbaknjenmaaAM

/-
  AN ABSTRACT MACHINE OVER THE MODEL, part 23: a run that is quick in the kernel: regions, code, calls.
-/
set_option linter.unusedVariables false
set_option linter.unusedSimpArgs false
namespace Go.Proofs.YtabkcbaknjenmaaAM
open Go
variable {P : Program} {X : FuncId → List Value → Mem → Option (Value × Mem)} {I : FuncId → List Value → Mem → Value → Mem → Prop}

noncomputable def wantF (ops : Array Oper) (t : List Value) (o : Oper) : Bool :=
  match o.guard with
  | none => true
  | some (j, want) => match (ops[j]?).bind (·.dst) with
    | some d => match nthN t d with
      | some (.bool b) => match b, want with
        | true, true => true
        | false, false => true
        | _, _ => false
      | _ => false
    | none => false
theorem wantF_eq (ops : Array Oper) (t : List Value) (o : Oper) : wantF ops t o = wantedA ops t o := by
  unfold wantF wantedA yieldedA
  cases o.guard with
  | none => rfl
  | some q =>
    obtain ⟨j, want⟩ := q
    simp only
    cases (ops[j]?).bind (·.dst) with
    | none => simp
    | some d =>
      simp only [nthN_eq, Option.bind_some]
      cases t[d]? with
      | none => simp
      | some v =>
        cases v <;> simp
        rename_i b
        cases b <;> cases want <;> rfl

/-- Operations one behind the other, from the i-th. -/
noncomputable def opsF (P : Program) (ask : Ask) (fn : FuncId) (rd : Option Nat) (k : Ctx) (ops : Array Oper) (l : List Oper) : Nat → List Value → List ADef → Mem → Bool → Option Res :=
  List.rec (motive := fun _ => Nat → List Value → List ADef → Mem → Bool → Option Res) (fun _ t d M rc => some (.code .normal ⟨t, d, M, rc⟩))
    (fun o _ ih i t d M rc => match wantF ops t o with
      | false => ih (i + 1) (putF t o.dst undef) d M rc
      | true => match okOp o.op with
        | true => match opF P t o.op M with
          | some (v, M') => ih (i + 1) (putF t o.dst v) d M' rc
          | none => match ask (.op fn rd k ops i ⟨t, d, M, rc⟩) with
            | some (.code .normal s1) => ih (i + 1) s1.t s1.d s1.M s1.rc
            | some (.code e s1) => some (.code e s1)
            | _ => none
        | false => none) l

theorem opsF_ev {ask : Ask} (hA : Good P I ask) {fn : FuncId} {rd : Option Nat} {k : Ctx} {ops : Array Oper} : ∀ (l : List Oper) (i : Nat) (t : List Value) (d : List ADef) (M : Mem) (rc : Bool) (r : Res),
    (∀ m o, l[m]? = some o → ops[i + m]? = some o) → opsF P ask fn rd k ops l i t d M rc = some r → Ev P I (.ops fn rd k ops (List.range' i l.length) ⟨t, d, M, rc⟩) r
  | [], i, t, d, M, rc, r, ho, h => by
    have h : some (Res.code .normal ⟨t, d, M, rc⟩) = some r := h
    injection h with h; subst h
    exact .opsNil
  | o :: l, i, t, d, M, rc, r, ho, h => by
    have ih := opsF_ev hA (fn := fn) (rd := rd) (k := k) (ops := ops) l (i + 1)
    have ho0 : ops[i]? = some o := ho 0 o rfl
    have hol : ∀ m o', l[m]? = some o' → ops[i + 1 + m]? = some o' := fun m o' hm => by
      have := ho (m + 1) o' (by simpa using hm)
      rw [show i + 1 + m = i + (m + 1) by omega]; exact this
    have h : (match wantF ops t o with
      | false => opsF P ask fn rd k ops l (i + 1) (putF t o.dst undef) d M rc
      | true => match okOp o.op with
        | true => match opF P t o.op M with
          | some (v, M') => opsF P ask fn rd k ops l (i + 1) (putF t o.dst v) d M' rc
          | none => match ask (.op fn rd k ops i ⟨t, d, M, rc⟩) with
            | some (.code .normal s1) => opsF P ask fn rd k ops l (i + 1) s1.t s1.d s1.M s1.rc
            | some (.code e s1) => some (.code e s1)
            | _ => none
        | false => none) = some r := h
    rw [List.length_cons, List.range'_succ]
    split at h
    · rename_i hw
      rw [wantF_eq] at hw
      rw [putF_eq] at h
      exact .opsCons (.opSkip ho0 hw) (ih _ _ _ _ _ hol h)
    · rename_i hw
      rw [wantF_eq] at hw
      split at h
      · rename_i hk
        split at h
        · rename_i v M' hv
          rw [putF_eq] at h
          exact .opsCons (.opVal (s := ⟨t, d, M, rc⟩) ho0 hw (.valLight ho0 hk (opF_eval hv))) (ih _ _ _ _ _ hol h)
        · split at h
          · rename_i hr
            exact .opsCons (hA _ _ hr) (ih _ _ _ _ _ hol h)
          · rename_i hne hr
            injection h with h; subst h
            exact .opsConsX (hA _ _ hr) (fun he => hne he)
          · simp at h
      · simp at h

/-- The run. -/
noncomputable def taskF (P : Program) (X : FuncId → List Value → Mem → Option (Value × Mem)) (ask : Ask) : Task → Option Res
  | .code fn rd k c s => match c with
    | .region _ ⟨l⟩ false => opsF P ask fn rd k ⟨l⟩ l 0 s.t s.d s.M s.rc
    | .cond x a b => match okX x with
      | true => match evF s.t x with
        | .bool true => ask (.code fn rd k a s)
        | .bool false => ask (.code fn rd k b s)
        | _ => none
      | false => none
    | c => codeR P ask fn rd k c s
  | t => taskR P X ask t
noncomputable def runF (P : Program) (X : FuncId → List Value → Mem → Option (Value × Mem)) (n : Nat) : Task → Option Res :=
  Nat.rec (motive := fun _ => Task → Option Res) (fun _ => none) (fun _ ih t => taskF P X ih t) n

theorem taskF_ev {ask : Ask} (hA : Good P I ask) (hX : ∀ f args M v M', X f args M = some (v, M') → I f args M v M') {t r} (h : taskF P X ask t = some r) : Ev P I t r := by
  unfold taskF at h
  split at h
  · split at h
    · rename_i l
      have := opsF_ev hA l 0 _ _ _ _ r (fun m o hm => by simpa using hm) h
      refine .region ?_
      have e : List.range (Array.mk l).size = List.range' 0 l.length := by simp [List.range_eq_range']
      rw [e]; exact this
    · split at h
      · rename_i hx
        rw [evF_eq] at h
        split at h
        · rename_i hc
          exact .cond hx hc (hA _ _ h)
        · rename_i hc
          exact .cond hx hc (hA _ _ h)
        · simp at h
      · simp at h
    · exact codeR_ev hA h
  · exact taskR_ev hA hX h
theorem runF_ev (hX : ∀ f args M v M', X f args M = some (v, M') → I f args M v M') : ∀ (n : Nat), Good P I (runF P X n)
  | 0, t, r, h => by
    have h : none = some r := h
    simp at h
  | n + 1, t, r, h => taskF_ev (runF_ev hX n) hX h

end Go.Proofs.YtabkcbaknjenmaaAM

/-
  AN ABSTRACT MACHINE OVER THE MODEL, part 24: a run that is quick in the kernel: closures of closed code, that the kernel keeps.
-/
set_option linter.unusedVariables false
set_option linter.unusedSimpArgs false
namespace Go.Proofs.YtabkcbaknjenmaaAM
open Go
variable {P : Program} {X : FuncId → List Value → Mem → Option (Value × Mem)} {I : FuncId → List Value → Mem → Value → Mem → Prop}

structure GetC where
  get : List Value → Value
noncomputable def nthC (n : Nat) : GetC := Nat.rec (motive := fun _ => GetC) ⟨fun l => List.rec (motive := fun _ => Value) undef (fun x _ _ => x) l⟩ (fun _ ih => ⟨fun l => List.rec (motive := fun _ => Value) undef (fun _ xs _ => ih.get xs) l⟩) n
theorem nthC_eq : ∀ (n : Nat) (l : List Value), (nthC n).get l = l.getD n undef
  | 0, [] => rfl
  | 0, x :: l => rfl
  | n + 1, [] => rfl
  | n + 1, x :: l => by
    show (nthC n).get l = _
    rw [nthC_eq n l]; rfl
structure SetC where
  set : List Value → Value → List Value
noncomputable def setC (n : Nat) : SetC := Nat.rec (motive := fun _ => SetC) ⟨fun l v => List.rec (motive := fun _ => List Value) [] (fun _ xs _ => v :: xs) l⟩ (fun _ ih => ⟨fun l v => List.rec (motive := fun _ => List Value) [] (fun x xs _ => x :: ih.set xs v) l⟩) n
theorem setC_eq : ∀ (n : Nat) (l : List Value) (v : Value), (setC n).set l v = l.set n v
  | 0, [], v => rfl
  | 0, x :: l, v => rfl
  | n + 1, [], v => rfl
  | n + 1, x :: l, v => by
    show x :: (setC n).set l v = _
    rw [setC_eq n l v]; rfl
noncomputable def evC : Operand → GetC
  | .tmp i => nthC i
  | .const v => ⟨fun _ => v⟩
  | .global _ => ⟨fun _ => undef⟩
  | .func f => ⟨fun _ => .func (.func f) #[] #[]⟩
theorem evC_eq (x : Operand) (t : List Value) : (evC x).get t = evA t x := by
  cases x with
  | tmp i => exact nthC_eq i t
  | _ => rfl
noncomputable def putC : Option Tmp → SetC
  | some d => setC d
  | none => ⟨fun t _ => t⟩
theorem putC_eq (d : Option Tmp) (t : List Value) (v : Value) : (putC d).set t v = putA t d v := by
  cases d with
  | none => rfl
  | some d => exact setC_eq d t v

structure OpC where
  run : List Value → Mem → Option (Value × Mem)
noncomputable def opC (P : Program) : Op → OpC
  | .move x | .assign x => ⟨fun t M => some ((evC x).get t, M)⟩
  | .pick c a b => ⟨fun t M => match (evC c).get t with
    | .bool k => some (Bool.rec ((evC b).get t) ((evC a).get t) k, M)
    | _ => none⟩
  | .binOp op ty x y z => ⟨fun t M => match binF op ((evC x).get t) ((evC y).get t) with
    | some v => some (v, M)
    | none => opEval P t (.binOp op ty x y z) M⟩
  | .load ty a => match scalarT P ty with
    | true => ⟨fun t M => match (evC a).get t with
      | .pointer (some ⟨x, o, none⟩) => match nthN M x with
        | some (.cells vs _ m) => match m with
          | .dead => none
          | _ => match nthN vs o with | some v => some (v, M) | none => none
        | _ => none
      | _ => none⟩
    | false => ⟨fun t M => opEval P t (.load ty a) M⟩
  | .extract x i => ⟨fun t M => match (evC x).get t with
    | .tuple ⟨vs⟩ => match nthN vs i with | some v => some (v, M) | none => none
    | _ => none⟩
  | .indexAddr ty x i => match (elemT P ty).bind (sizeT P) with
    | some size => ⟨fun t M => match (evC x).get t with
      | .slice (some ⟨b, o, none⟩) n _ => match (evC i).get t with
        | .int _ (.ofNat k) => match Nat.blt k n with
          | true => some (.pointer (some ⟨b, Nat.add o (Nat.mul k size), none⟩), M)
          | false => none
        | _ => none
      | _ => none⟩
    | none => ⟨fun t M => opEval P t (.indexAddr ty x i) M⟩
  | o => ⟨fun t M => opF P t o M⟩
theorem opC_eval {o : Op} {t : List Value} {M : Mem} {r : Value × Mem} (h : (opC P o).run t M = some r) : opEval P t o M = some r := by
  unfold opC at h
  split at h
  · simp only [evC_eq] at h; exact h
  · simp only [evC_eq] at h; exact h
  · simp only [evC_eq] at h
    simp only [opEval]
    split at h
    · rename_i k hk
      rw [hk]
      cases k <;> exact h
    · simp at h
  · simp only [evC_eq] at h
    split at h
    · rename_i v hv
      injection h with h; subst h
      simp only [opEval, binF_binA hv]; rfl
    · exact h
  · rename_i ty a
    split at h
    · rename_i hs
      refine opF_eval (r := r) ?_
      simp only [opF, hs, evF_eq]
      simp only [evC_eq] at h
      split at h
      · rename_i x o ha
        split at h
        · rename_i vs u m hM
          cases m with
          | dead => simp at h
          | live => simp only [ha, hM]; exact h
          | ro => simp only [ha, hM]; exact h
        · simp at h
      · simp at h
    · exact h
  · rename_i x i
    refine opF_eval (r := r) ?_
    simp only [opF, evF_eq]
    simp only [evC_eq] at h
    exact h
  · rename_i ty x i
    split at h
    · rename_i size hs
      refine opF_eval (r := r) ?_
      simp only [evC_eq] at h
      simp only [opF, evF_eq]
      split at h
      · rename_i b o n c hx
        split at h
        · rename_i kk k hi
          split at h
          · rename_i hlt
            simp only [hx, hi, hlt, hs]; exact h
          · simp at h
        · simp at h
      · simp at h
    · exact h
  · exact opF_eval h

structure GuardC where
  want : List Value → Bool
noncomputable def wantC (ops : Array Oper) (o : Oper) : GuardC :=
  match o.guard with
  | none => ⟨fun _ => true⟩
  | some (j, want) => match (ops[j]?).bind (·.dst) with
    | some d => ⟨fun t => match (nthC d).get t with
      | .bool b => Bool.rec (Bool.rec true false want) (Bool.rec false true want) b
      | _ => false⟩
    | none => ⟨fun _ => false⟩
theorem undef_notBool : ∀ b, undef ≠ Value.bool b := by intro b h; simp [undef] at h
theorem wantC_eq (ops : Array Oper) (o : Oper) (t : List Value) : (wantC ops o).want t = wantedA ops t o := by
  unfold wantC wantedA yieldedA
  cases o.guard with
  | none => rfl
  | some q =>
    obtain ⟨j, want⟩ := q
    simp only
    cases (ops[j]?).bind (·.dst) with
    | none => simp
    | some d =>
      simp only [nthC_eq, Option.bind_some, List.getD_eq_getElem?_getD]
      cases t[d]? with
      | none => simp [undef]
      | some v =>
        cases v <;> simp
        rename_i b
        cases b <;> cases want <;> rfl

/-- What comes of it: how things stand; or out of turn; or nothing. -/
inductive R where
  | n (t : List Value) (d : List ADef) (M : Mem) (rc : Bool)
  | x (e : AExit) (s : St)
  | f
def R.res : R → Option Res
  | .n t d M rc => some (.code .normal ⟨t, d, M, rc⟩)
  | .x e s => some (.code e s)
  | .f => none
def toR : Option Res → R
  | some (.code .normal s) => .n s.t s.d s.M s.rc
  | some (.code e s) => .x e s
  | _ => .f
theorem toR_res {q : Option Res} {r : Res} (h : (toR q).res = some r) : q = some r := by
  unfold toR at h
  split at h <;> first | exact h | (simp [R.res] at h)

structure RunC where
  run : Ask → List Value → List ADef → Mem → Bool → R
noncomputable def opsC (P : Program) (fn : FuncId) (rd : Option Nat) (k : Ctx) (ops : Array Oper) (l : List Oper) : Nat → RunC :=
  List.rec (motive := fun _ => Nat → RunC) (fun _ => ⟨fun _ t d M rc => .n t d M rc⟩)
    (fun o _ ih i => match okOp o.op with
      | true => ⟨fun ask t d M rc => match (wantC ops o).want t with
        | true => match (opC P o.op).run t M with
          | some (v, M') => (ih (i + 1)).run ask ((putC o.dst).set t v) d M' rc
          | none => match toR (ask (.op fn rd k ops i ⟨t, d, M, rc⟩)) with
            | .n t' d' M' rc' => (ih (i + 1)).run ask t' d' M' rc'
            | .x e s1 => .x e s1
            | .f => .f
        | false => (ih (i + 1)).run ask ((putC o.dst).set t undef) d M rc⟩
      | false => ⟨fun _ _ _ _ _ => .f⟩) l
noncomputable def codeC (P : Program) (fn : FuncId) (rd : Option Nat) (k : Ctx) : Code → RunC
  | .skip => ⟨fun _ t d M rc => .n t d M rc⟩
  | .seq a b => ⟨fun ask t d M rc => match (codeC P fn rd k a).run ask t d M rc with
    | .n t d M rc => (codeC P fn rd k b).run ask t d M rc
    | .x e s => .x e s
    | .f => .f⟩
  | .cond x a b => match okX x with
    | true => ⟨fun ask t d M rc => match (evC x).get t with
      | .bool c => Bool.rec ((codeC P fn rd k b).run ask t d M rc) ((codeC P fn rd k a).run ask t d M rc) c
      | _ => .f⟩
    | false => ⟨fun _ _ _ _ _ => .f⟩
  | .block id c => ⟨fun ask t d M rc => match (codeC P fn rd k c).run ask t d M rc with
    | .n t d M rc => .n t d M rc
    | .x e s => match e with
      | .exit i => match Nat.beq i id with
        | true => .n s.t s.d s.M s.rc
        | false => .x (.exit i) s
      | e => .x e s
    | .f => .f⟩
  | .loop c => ⟨fun ask t d M rc => match (codeC P fn rd k c).run ask t d M rc with
    | .n t d M rc => toR (ask (.code fn rd k (.loop c) ⟨t, d, M, rc⟩))
    | .x e s => .x e s
    | .f => .f⟩
  | .exit id => ⟨fun _ t d M rc => .x (.exit id) ⟨t, d, M, rc⟩⟩
  | .ret => ⟨fun _ t d M rc => .x .ret ⟨t, d, M, rc⟩⟩
  | .region _ ops false => opsC P fn rd k ops ops.toList 0
  | c => ⟨fun ask t d M rc => toR (codeR P ask fn rd k c ⟨t, d, M, rc⟩)⟩

theorem opsC_ev {ask : Ask} (hA : Good P I ask) {fn : FuncId} {rd : Option Nat} {k : Ctx} {ops : Array Oper} : ∀ (l : List Oper) (i : Nat) (t : List Value) (d : List ADef) (M : Mem) (rc : Bool) (r : Res),
    (∀ m o, l[m]? = some o → ops[i + m]? = some o) → ((opsC P fn rd k ops l i).run ask t d M rc).res = some r → Ev P I (.ops fn rd k ops (List.range' i l.length) ⟨t, d, M, rc⟩) r
  | [], i, t, d, M, rc, r, ho, h => by
    have h : some (Res.code .normal ⟨t, d, M, rc⟩) = some r := h
    injection h with h; subst h
    exact .opsNil
  | o :: l, i, t, d, M, rc, r, ho, h => by
    have ih := opsC_ev hA (fn := fn) (rd := rd) (k := k) (ops := ops) l (i + 1)
    have ho0 : ops[i]? = some o := ho 0 o rfl
    have hol : ∀ m o', l[m]? = some o' → ops[i + 1 + m]? = some o' := fun m o' hm => by
      have := ho (m + 1) o' (by simpa using hm)
      rw [show i + 1 + m = i + (m + 1) by omega]; exact this
    have h : ((match okOp o.op with
      | true => (⟨fun ask t d M rc => match (wantC ops o).want t with
        | true => match (opC P o.op).run t M with
          | some (v, M') => (opsC P fn rd k ops l (i + 1)).run ask ((putC o.dst).set t v) d M' rc
          | none => match toR (ask (.op fn rd k ops i ⟨t, d, M, rc⟩)) with
            | .n t' d' M' rc' => (opsC P fn rd k ops l (i + 1)).run ask t' d' M' rc'
            | .x e s1 => .x e s1
            | .f => .f
        | false => (opsC P fn rd k ops l (i + 1)).run ask ((putC o.dst).set t undef) d M rc⟩ : RunC)
      | false => ⟨fun _ _ _ _ _ => .f⟩).run ask t d M rc).res = some r := h
    rw [List.length_cons, List.range'_succ]
    split at h
    · rename_i hk
      simp only at h
      split at h
      · rename_i hw
        rw [wantC_eq] at hw
        split at h
        · rename_i v M' hv
          rw [putC_eq] at h
          exact .opsCons (.opVal (s := ⟨t, d, M, rc⟩) ho0 hw (.valLight ho0 hk (opC_eval hv))) (ih _ _ _ _ _ hol h)
        · split at h
          · rename_i t' d' M' rc' hr
            exact .opsCons (hA _ _ (toR_res (r := .code .normal ⟨t', d', M', rc'⟩) (by rw [hr]; rfl))) (ih _ _ _ _ _ hol h)
          · rename_i e s1 hr
            have h1 := toR_res (r := .code e s1) (by rw [hr]; rfl)
            have hne : e ≠ .normal := by
              intro he; subst he
              rw [h1] at hr; simp [toR] at hr
            simp only [R.res] at h
            injection h with h; subst h
            exact .opsConsX (hA _ _ h1) hne
          · simp [R.res] at h
      · rename_i hw
        rw [wantC_eq] at hw
        rw [putC_eq] at h
        exact .opsCons (.opSkip (s := ⟨t, d, M, rc⟩) ho0 hw) (ih _ _ _ _ _ hol h)
    · simp [R.res] at h

end Go.Proofs.YtabkcbaknjenmaaAM

/-
  AN ABSTRACT MACHINE OVER THE MODEL, part 27: the same by other names.
-/
set_option linter.unusedVariables false
set_option linter.unusedSimpArgs false
namespace Go.Proofs.YtabkcbaknjenmaaAM
open Go

inductive RenV (σ : Nat → Option Nat) : Value → Value → Prop
  | bool (b : Bool) : RenV σ (.bool b) (.bool b)
  | int (k : IntKind) (n : Int) : RenV σ (.int k n) (.int k n)
  | string (s : ByteArray) : RenV σ (.string s) (.string s)
  | ptrN : RenV σ (.pointer none) (.pointer none)
  | ptr {x y o : Nat} (h : σ x = some y) : RenV σ (.pointer (some ⟨x, o, none⟩)) (.pointer (some ⟨y, o, none⟩))
  | sliN : RenV σ (.slice none 0 0) (.slice none 0 0)
  | sli {x y o n c : Nat} (h : σ x = some y) : RenV σ (.slice (some ⟨x, o, none⟩) n c) (.slice (some ⟨y, o, none⟩) n c)
  | mapN : RenV σ (.map none) (.map none)
  | map {x y : Nat} (h : σ x = some y) : RenV σ (.map (some x)) (.map (some y))
  | fn (f : FuncId) (a a' b b' : Array Value) (ha : a.size = a'.size) (hb : b.size = b'.size)
      (hA : ∀ (i : Nat) v v', a[i]? = some v → a'[i]? = some v' → RenV σ v v') (hB : ∀ (i : Nat) v v', b[i]? = some v → b'[i]? = some v' → RenV σ v v') : RenV σ (.func (.func f) a b) (.func (.func f) a' b')
  | yield {x y : Nat} (h : σ x = some y) : RenV σ (.func (.yield x) #[] #[]) (.func (.yield y) #[] #[])
  | nilFunc : RenV σ .nilFunc .nilFunc
  | nilIface : RenV σ .nilIface .nilIface
  | iface (t : TypeId) {v v' : Value} (h : RenV σ v v') : RenV σ (.iface t v) (.iface t v')
  | agg (a a' : Array Value) (ha : a.size = a'.size) (hA : ∀ (i : Nat) v v', a[i]? = some v → a'[i]? = some v' → RenV σ v v') : RenV σ (.agg a) (.agg a')
  | tuple (a a' : Array Value) (ha : a.size = a'.size) (hA : ∀ (i : Nat) v v', a[i]? = some v → a'[i]? = some v' → RenV σ v v') : RenV σ (.tuple a) (.tuple a')

theorem RenV.down {σ : Nat → Option Nat} {ρ ρ0 : Rho} (hσ : ∀ x y, σ x = some y → ρ0 x = ρ y) {v v1 : Value} (h : RenV σ v v1) : ∀ {v' : Value}, VRel ρ v1 v' → VRel ρ0 v v' := by
  induction h with
  | bool b => intro v' r; cases r; exact .bool b
  | int k n => intro v' r; cases r; exact .int k n
  | string s => intro v' r; cases r; exact .string s
  | ptrN => intro v' r; cases r; exact .ptrN
  | ptr e => intro v' r; cases r with | ptr e2 => exact .ptr (by rw [hσ _ _ e]; exact e2)
  | sliN => intro v' r; cases r; exact .sliN
  | sli e => intro v' r; cases r with | sli e2 hs => exact .sli (by rw [hσ _ _ e]; exact e2) hs
  | mapN => intro v' r; cases r; exact .mapN
  | map e => intro v' r; cases r with | map e2 => exact .map (by rw [hσ _ _ e]; exact e2)
  | fn f a a1 b b1 ha hb _ _ iA iB =>
    intro v' r
    cases r with
    | fn _ _ a' _ b' ha' hb' hA' hB' =>
      refine .fn f a a' b b' (ha.trans ha') (hb.trans hb') (fun i x x' hx hx' => ?_) (fun i x x' hx hx' => ?_)
      · have hi : i < a1.size := by have := (Array.getElem?_eq_some_iff.1 hx).1; omega
        exact iA i x a1[i] hx (by simp [hi]) (hA' i a1[i] x' (by simp [hi]) hx')
      · have hi : i < b1.size := by have := (Array.getElem?_eq_some_iff.1 hx).1; omega
        exact iB i x b1[i] hx (by simp [hi]) (hB' i b1[i] x' (by simp [hi]) hx')
  | yield e => intro v' r; cases r with | yield e2 => exact .yield (by rw [hσ _ _ e]; exact e2)
  | nilFunc => intro v' r; cases r; exact .nilFunc
  | nilIface => intro v' r; cases r; exact .nilIface
  | iface t _ ih => intro v' r; cases r with | iface _ r2 => exact .iface t (ih r2)
  | agg a a1 ha _ iA =>
    intro v' r
    cases r with
    | agg _ a' ha' hA' =>
      refine .agg a a' (ha.trans ha') (fun i x x' hx hx' => ?_)
      have hi : i < a1.size := by have := (Array.getElem?_eq_some_iff.1 hx).1; omega
      exact iA i x a1[i] hx (by simp [hi]) (hA' i a1[i] x' (by simp [hi]) hx')
  | tuple a a1 ha _ iA =>
    intro v' r
    cases r with
    | tuple _ a' ha' hA' =>
      refine .tuple a a' (ha.trans ha') (fun i x x' hx hx' => ?_)
      have hi : i < a1.size := by have := (Array.getElem?_eq_some_iff.1 hx).1; omega
      exact iA i x a1[i] hx (by simp [hi]) (hA' i a1[i] x' (by simp [hi]) hx')

theorem RenV.up {σ : Nat → Option Nat} {ρ1 ρ' : Rho} (hσ : ∀ x y p, σ x = some y → ρ1 x = some p → ρ' y = some p) {v v1 : Value} (h : RenV σ v v1) : ∀ {v' : Value}, VRel ρ1 v v' → VRel ρ' v1 v' := by
  induction h with
  | bool b => intro v' r; cases r; exact .bool b
  | int k n => intro v' r; cases r; exact .int k n
  | string s => intro v' r; cases r; exact .string s
  | ptrN => intro v' r; cases r; exact .ptrN
  | ptr e => intro v' r; cases r with | ptr e2 => exact .ptr (hσ _ _ _ e e2)
  | sliN => intro v' r; cases r; exact .sliN
  | sli e => intro v' r; cases r with | sli e2 hs => exact .sli (hσ _ _ _ e e2) hs
  | mapN => intro v' r; cases r; exact .mapN
  | map e => intro v' r; cases r with | map e2 => exact .map (hσ _ _ _ e e2)
  | fn f a a1 b b1 ha hb _ _ iA iB =>
    intro v' r
    cases r with
    | fn _ _ a' _ b' ha' hb' hA' hB' =>
      refine .fn f a1 a' b1 b' (ha.symm.trans ha') (hb.symm.trans hb') (fun i x x' hx hx' => ?_) (fun i x x' hx hx' => ?_)
      · have hi : i < a.size := by have := (Array.getElem?_eq_some_iff.1 hx).1; omega
        exact iA i a[i] x (by simp [hi]) hx (hA' i a[i] x' (by simp [hi]) hx')
      · have hi : i < b.size := by have := (Array.getElem?_eq_some_iff.1 hx).1; omega
        exact iB i b[i] x (by simp [hi]) hx (hB' i b[i] x' (by simp [hi]) hx')
  | yield e => intro v' r; cases r with | yield e2 => exact .yield (hσ _ _ _ e e2)
  | nilFunc => intro v' r; cases r; exact .nilFunc
  | nilIface => intro v' r; cases r; exact .nilIface
  | iface t _ ih => intro v' r; cases r with | iface _ r2 => exact .iface t (ih r2)
  | agg a a1 ha _ iA =>
    intro v' r
    cases r with
    | agg _ a' ha' hA' =>
      refine .agg a1 a' (ha.symm.trans ha') (fun i x x' hx hx' => ?_)
      have hi : i < a.size := by have := (Array.getElem?_eq_some_iff.1 hx).1; omega
      exact iA i a[i] x (by simp [hi]) hx (hA' i a[i] x' (by simp [hi]) hx')
  | tuple a a1 ha _ iA =>
    intro v' r
    cases r with
    | tuple _ a' ha' hA' =>
      refine .tuple a1 a' (ha.symm.trans ha') (fun i x x' hx hx' => ?_)
      have hi : i < a.size := by have := (Array.getElem?_eq_some_iff.1 hx).1; omega
      exact iA i a[i] x (by simp [hi]) hx (hA' i a[i] x' (by simp [hi]) hx')

structure RenL (σ : Nat → Option Nat) (l l1 : List Value) : Prop where
  len : l.length = l1.length
  at_ : ∀ (i : Nat) v v1, l[i]? = some v → l1[i]? = some v1 → RenV σ v v1
def RenO (σ : Nat → Option Nat) : AObj → AObj → Prop
  | .cells vs u m, .cells vs1 u1 m1 => u1 = u ∧ m1 = m ∧ RenL σ vs vs1
  | .map es, .map es1 => es.length = es1.length ∧ ∀ (i : Nat) (e e1 : Value × Value), es[i]? = some e → es1[i]? = some e1 → e1.1 = e.1 ∧ RenV σ e.2 e1.2
  | .loop st pd fn t ps as bd df, .loop st1 pd1 fn1 t1 ps1 as1 bd1 df1 => st1 = st ∧ pd1 = pd ∧ fn1 = fn ∧ RenL σ t t1 ∧ ps1 = ps ∧ as1 = as ∧ bd1 = bd ∧ σ df = some df1
  | .defers t, .defers t1 => t1 = t
  | .siter s p, .siter s1 p1 => s1 = s ∧ p1 = p
  | _, _ => False
theorem RenL.down {σ : Nat → Option Nat} {ρ ρ0 : Rho} (hσ : ∀ x y, σ x = some y → ρ0 x = ρ y) {l l1 l' : List Value} (h : RenL σ l l1) (r : LRel ρ l1 l') : LRel ρ0 l l' :=
  ⟨h.len.trans r.len, fun i v v' a b => by
    have hi : i < l1.length := by rw [← h.len]; exact (List.getElem?_eq_some_iff.1 a).1
    exact (h.at_ i v l1[i] a (by simp [hi])).down hσ (r.at_ i l1[i] v' (by simp [hi]) b)⟩
theorem RenL.up {σ : Nat → Option Nat} {ρ1 ρ' : Rho} (hσ : ∀ x y p, σ x = some y → ρ1 x = some p → ρ' y = some p) {l l1 l' : List Value} (h : RenL σ l l1) (r : LRel ρ1 l l') : LRel ρ' l1 l' :=
  ⟨h.len.symm.trans r.len, fun i v v' a b => by
    have hi : i < l.length := by rw [h.len]; exact (List.getElem?_eq_some_iff.1 a).1
    exact (h.at_ i l[i] v (by simp [hi]) a).up hσ (r.at_ i l[i] v' (by simp [hi]) b)⟩
theorem RenO.down {σ : Nat → Option Nat} {ρ ρ0 : Rho} (hσ : ∀ x y, σ x = some y → ρ0 x = ρ y) {o o1 : AObj} {p : Place} {w : World} (h : RenO σ o o1) (r : ORel ρ o1 p w) : ORel ρ0 o p w := by
  cases o with
  | cells vs u m => cases o1 with
    | cells vs1 u1 m1 =>
      obtain ⟨rfl, rfl, hl⟩ := h
      rcases r with r | ⟨cs, el, fr, a, b, c, d, e, f⟩
      · exact .inl r
      · refine .inr ⟨cs, el, fr, a, b, c, by rw [hl.len]; exact d, fun i v hv => ?_, f⟩
        have hi : i < vs1.length := by rw [← hl.len]; exact (List.getElem?_eq_some_iff.1 hv).1
        obtain ⟨v', x, y⟩ := e i vs1[i] (by simp [hi])
        exact ⟨v', x, (hl.at_ i v vs1[i] hv (by simp [hi])).down hσ y⟩
    | _ => exact h.elim
  | map es => cases o1 with
    | map es1 =>
      obtain ⟨hl, he⟩ := h
      obtain ⟨es', c, a, b, d⟩ := r
      refine ⟨es', c, a, hl.trans b, fun i e e' x y => ?_⟩
      have hi : i < es1.length := by rw [← hl]; exact (List.getElem?_eq_some_iff.1 x).1
      obtain ⟨p1, p2⟩ := he i e es1[i] x (by simp [hi])
      obtain ⟨q1, q2, q3⟩ := d i es1[i] e' (by simp [hi]) y
      exact ⟨by rw [← p1]; exact q1, by rw [q2, p1], p2.down hσ q3⟩
    | _ => exact h.elim
  | loop st pd fn t ps as bd df => cases o1 with
    | loop st1 pd1 fn1 t1 ps1 as1 bd1 df1 =>
      obtain ⟨rfl, rfl, rfl, hl, rfl, rfl, rfl, hd⟩ := h
      obtain ⟨tmps', q, a, b, pq, c, d⟩ := r
      exact ⟨tmps', q, a, hl.down hσ b, pq, by rw [hσ _ _ hd]; exact c, d⟩
    | _ => exact h.elim
  | defers t => cases o1 with
    | defers t1 => obtain rfl := h; exact r
    | _ => exact h.elim
  | siter s pos => cases o1 with
    | siter s1 p1 => obtain ⟨rfl, rfl⟩ := h; exact r
    | _ => exact h.elim
theorem RenO.up {σ : Nat → Option Nat} {ρ1 ρ' : Rho} (hσ : ∀ x y p, σ x = some y → ρ1 x = some p → ρ' y = some p) {o o1 : AObj} {p : Place} {w : World} (h : RenO σ o o1) (r : ORel ρ1 o p w) : ORel ρ' o1 p w := by
  cases o with
  | cells vs u m => cases o1 with
    | cells vs1 u1 m1 =>
      obtain ⟨rfl, rfl, hl⟩ := h
      rcases r with r | ⟨cs, el, fr, a, b, c, d, e, f⟩
      · exact .inl r
      · refine .inr ⟨cs, el, fr, a, b, c, by rw [← hl.len]; exact d, fun i v hv => ?_, f⟩
        have hi : i < vs.length := by rw [hl.len]; exact (List.getElem?_eq_some_iff.1 hv).1
        obtain ⟨v', x, y⟩ := e i vs[i] (by simp [hi])
        exact ⟨v', x, (hl.at_ i vs[i] v (by simp [hi]) hv).up hσ y⟩
    | _ => exact h.elim
  | map es => cases o1 with
    | map es1 =>
      obtain ⟨hl, he⟩ := h
      obtain ⟨es', c, a, b, d⟩ := r
      refine ⟨es', c, a, hl.symm.trans b, fun i e e' x y => ?_⟩
      have hi : i < es.length := by rw [hl]; exact (List.getElem?_eq_some_iff.1 x).1
      obtain ⟨p1, p2⟩ := he i es[i] e (by simp [hi]) x
      obtain ⟨q1, q2, q3⟩ := d i es[i] e' (by simp [hi]) y
      exact ⟨by rw [p1]; exact q1, by rw [q2, p1], p2.up hσ q3⟩
    | _ => exact h.elim
  | loop st pd fn t ps as bd df => cases o1 with
    | loop st1 pd1 fn1 t1 ps1 as1 bd1 df1 =>
      obtain ⟨rfl, rfl, rfl, hl, rfl, rfl, rfl, hd⟩ := h
      obtain ⟨tmps', q, a, b, pq, c, d⟩ := r
      exact ⟨tmps', q, a, hl.up hσ b, pq, hσ _ _ _ hd c, d⟩
    | _ => exact h.elim
  | defers t => cases o1 with
    | defers t1 => obtain rfl := h; exact r
    | _ => exact h.elim
  | siter s pos => cases o1 with
    | siter s1 p1 => obtain ⟨rfl, rfl⟩ := h; exact r
    | _ => exact h.elim
theorem RenO.modes {σ : Nat → Option Nat} {o o1 : AObj} (h : RenO σ o o1) : o1.writable = o.writable ∧ o1.alive = o.alive := by
  cases o <;> cases o1 <;> first | exact h.elim | exact ⟨rfl, rfl⟩ | (obtain ⟨rfl, rfl, _⟩ := h; simp only [AObj.writable, AObj.alive]; constructor <;> (split <;> simp_all))

end Go.Proofs.YtabkcbaknjenmaaAM

/-
  AN ABSTRACT MACHINE OVER THE MODEL, part 28: what holds over a small memory holds over a large one.
-/
set_option linter.unusedVariables false
set_option linter.unusedSimpArgs false
namespace Go.Proofs.YtabkcbaknjenmaaAM
open Go
variable {P : Program}

/-- A small memory within a large one, and both behind a call. -/
structure Lift (σ σ' : Nat → Option Nat) (M0 M0' M M1 : Mem) : Prop where
  all : ∀ x, x < M0.length → ∃ y, σ x = some y
  dom : ∀ x y, σ x = some y → x < M0.length ∧ y < M.length
  inj : ∀ x x' y, σ x = some y → σ x' = some y → x = x'
  obj : ∀ x y, σ x = some y → ∃ o o1, M0[x]? = some o ∧ M[y]? = some o1 ∧ RenO σ o o1
  old : ∀ x, x < M0.length → σ' x = σ x
  fresh : ∀ x, M0.length ≤ x → x < M0'.length → σ' x = some (M.length + (x - M0.length))
  out : ∀ x, M0'.length ≤ x → σ' x = none
  len : M1.length = M.length + (M0'.length - M0.length)
  obj' : ∀ x y, σ' x = some y → ∃ o o1, M0'[x]? = some o ∧ M1[y]? = some o1 ∧ RenO σ' o o1
  keep : ∀ y, y < M.length → (∀ x, σ x ≠ some y) → M1[y]? = M[y]?

theorem Lift.ext {σ σ' : Nat → Option Nat} {M0 M0' M M1 : Mem} (L : Lift σ σ' M0 M0' M M1) {ρ : Rho} {w : World} (hR : Rel ρ M w) :
    Rel (fun x => (σ x).bind ρ) M0 w ∧ ∀ {ρ1 : Rho} {w1 : World}, Ext (fun x => (σ x).bind ρ) M0 w ρ1 M0' w1 →
      ∃ ρ', Ext ρ M w ρ' M1 w1 ∧ ∀ x y p, σ' x = some y → ρ1 x = some p → ρ' y = some p := by
  have hσ : ∀ x y, σ x = some y → (fun x => (σ x).bind ρ) x = ρ y := fun x y e => by simp [e]
  have inv : ∀ x p, (σ x).bind ρ = some p → ∃ y, σ x = some y ∧ ρ y = some p := by
    intro x p e
    cases hx : σ x with
    | none => simp [hx] at e
    | some y => exact ⟨y, rfl, by simpa [hx] using e⟩
  constructor
  · refine ⟨?_, ?_, ?_⟩
    · intro x p e
      obtain ⟨y, hy, hp⟩ := inv x p e
      obtain ⟨o, o1, h1, h2, h3⟩ := L.obj x y hy
      obtain ⟨o1', h4, h5⟩ := hR.obj y p hp
      rw [h2] at h4; injection h4 with h4; subst h4
      exact ⟨o, h1, h3.down hσ h5⟩
    · intro x p e
      obtain ⟨y, hy, hp⟩ := inv x p e
      exact hR.blk y p hp
    · intro x x' p q o o' ex ex' hne ho ho' hw ha
      obtain ⟨y, hy, hp⟩ := inv x p ex
      obtain ⟨y', hy', hp'⟩ := inv x' q ex'
      obtain ⟨a, a1, h1, h2, h3⟩ := L.obj x y hy
      obtain ⟨b, b1, k1, k2, k3⟩ := L.obj x' y' hy'
      rw [h1] at ho; injection ho with ho; subst ho
      rw [k1] at ho'; injection ho' with ho'; subst ho'
      exact hR.sep y y' p q a1 b1 hp hp' (fun h => hne (L.inj x x' y hy (by rw [h]; exact hy'))) h2 k2 (by rw [h3.modes.1]; exact hw) (by rw [k3.modes.2]; exact ha)
  · intro ρ1 w1 h
    let ρ' : Rho := fun y => if y < M.length then ρ y else ρ1 (M0.length + (y - M.length))
    have up : ∀ x y p, σ' x = some y → ρ1 x = some p → ρ' y = some p := by
      intro x y p e hp
      rcases Nat.lt_or_ge x M0.length with hx | hx
      · rw [L.old x hx] at e
        have hy := (L.dom x y e).2
        rcases h.dom x p hp with ⟨q, hq⟩ | ⟨a, _⟩
        · have := h.le _ _ hq
          rw [hp] at this; injection this with this; subst this
          simp only [ρ', if_pos hy]
          rw [← hσ x y e]; exact hq
        · omega
      · have hx' : x < M0'.length := by
          rcases Nat.lt_or_ge x M0'.length with h1 | h1
          · exact h1
          · rw [L.out x h1] at e; simp at e
        rw [L.fresh x hx hx'] at e; injection e with e; subst e
        simp only [ρ']
        rw [if_neg (by omega), show M0.length + (M.length + (x - M0.length) - M.length) = x by omega]
        exact hp
    refine ⟨ρ', ?_, up⟩
    have le : Rho.le ρ ρ' := fun y p e => by
      obtain ⟨o, ho, _⟩ := hR.obj y p e
      simp only [ρ', if_pos (List.getElem?_eq_some_iff.1 ho).1]; exact e
    have lenM := h.len
    have pre : ∀ y p, ρ' y = some p → (∃ x, σ' x = some y ∧ ρ1 x = some p) ∨ (y < M.length ∧ ρ y = some p ∧ ∀ x, σ x ≠ some y) := by
      intro y p e
      by_cases hy : y < M.length
      · simp only [ρ', if_pos hy] at e
        by_cases hx : ∃ x, σ x = some y
        · obtain ⟨x, hx⟩ := hx
          refine .inl ⟨x, by rw [L.old x (L.dom x y hx).1]; exact hx, h.le _ _ ?_⟩
          show (σ x).bind ρ = some p
          rw [hx]; exact e
        · exact .inr ⟨hy, e, fun x hx' => hx ⟨x, hx'⟩⟩
      · simp only [ρ', if_neg hy] at e
        rcases h.dom _ p e with ⟨q, hq⟩ | ⟨a, b⟩
        · obtain ⟨y', hy', _⟩ := inv _ q hq
          have := (L.dom _ _ hy').1
          omega
        · refine .inl ⟨_, ?_, e⟩
          rw [L.fresh _ a b]
          congr 1
          omega
    -- what may be written in the small may be written in the large
    have wbU : ∀ k, Wb (fun x => (σ x).bind ρ) M0 k → ∃ y p o, ρ y = some p ∧ M[y]? = some o ∧ o.writable = true ∧ p.block = k ∧ ∃ x, σ x = some y := by
      rintro k ⟨x, p, o, e, ho, hw, hb⟩
      obtain ⟨y, hy, hp⟩ := inv x p e
      obtain ⟨a, a1, h1, h2, h3⟩ := L.obj x y hy
      rw [h1] at ho; injection ho with ho; subst ho
      exact ⟨y, p, a1, hp, h2, by rw [h3.modes.1]; exact hw, hb, x, hy⟩
    have apart : ∀ y q o, ρ y = some q → (∀ x, σ x ≠ some y) → M[y]? = some o → o.alive = true → ∀ k, Wb ρ1 M0' k → q.block ≠ k := by
      intro y q o e hn ho ha k hk
      have hq := hR.blk y q e
      by_cases hks : k < w.heap.size
      · obtain ⟨y', p', o', e', ho', hw', hb', x', hx'⟩ := wbU k (h.wb k hk hks)
        have := hR.sep y' y p' q o' o e' e (fun hh => hn x' (by rw [← hh]; exact hx')) ho' ho hw' ha
        rw [hb'] at this
        exact fun hh => this hh.symm
      · omega
    have rel' : Rel ρ' M1 w1 := by
      refine ⟨?_, ?_, ?_⟩
      · intro y p e
        rcases pre y p e with ⟨x, hx, hp⟩ | ⟨hy, hp, hn⟩
        · obtain ⟨o, o1, h1, h2, h3⟩ := L.obj' x y hx
          obtain ⟨o', h4, h5⟩ := h.rel.obj x p hp
          rw [h1] at h4; injection h4 with h4; subst h4
          exact ⟨o1, h2, h3.up up h5⟩
        · obtain ⟨o, ho, hr⟩ := hR.obj y p hp
          refine ⟨o, by rw [L.keep y hy hn]; exact ho, ?_⟩
          by_cases ha : o.alive = true
          · refine (hr.mono le).of_block (h.kept _ (hR.blk y p hp) fun hw => ?_)
            obtain ⟨y', p', o', e', ho', hw', hb', x', hx'⟩ := wbU _ hw
            exact hR.sep y' y p' p o' o e' hp (fun hh => hn x' (by rw [← hh]; exact hx')) ho' ho hw' ha hb'
          · cases o with
            | cells vs u m => cases m <;> simp [AObj.alive] at ha; exact .inl rfl
            | _ => simp [AObj.alive] at ha
      · intro y p e
        rcases pre y p e with ⟨x, hx, hp⟩ | ⟨hy, hp, hn⟩
        · exact h.rel.blk x p hp
        · have := hR.blk y p hp; have := h.size; omega
      · intro y z p q o o' ey ez hne ho ho' hw ha
        rcases pre y p ey with ⟨x, hx, hp⟩ | ⟨hy, hp, hn⟩ <;> rcases pre z q ez with ⟨x', hx', hp'⟩ | ⟨hy', hp', hn'⟩
        · obtain ⟨a, a1, h1, h2, h3⟩ := L.obj' x y hx
          obtain ⟨b, b1, k1, k2, k3⟩ := L.obj' x' z hx'
          rw [h2] at ho; injection ho with ho; subst ho
          rw [k2] at ho'; injection ho' with ho'; subst ho'
          exact h.rel.sep x x' p q a b hp hp' (fun hh => by subst hh; rw [hx] at hx'; injection hx' with hx'; exact hne hx') h1 k1 (by rw [← h3.modes.1]; exact hw) (by rw [← k3.modes.2]; exact ha)
        · obtain ⟨a, a1, h1, h2, h3⟩ := L.obj' x y hx
          rw [h2] at ho; injection ho with ho; subst ho
          rw [L.keep z hy' hn'] at ho'
          exact fun hh => apart z q o' hp' hn' ho' ha p.block ⟨x, p, a, hp, h1, by rw [← h3.modes.1]; exact hw, rfl⟩ hh.symm
        · obtain ⟨b, b1, k1, k2, k3⟩ := L.obj' x' z hx'
          rw [k2] at ho'; injection ho' with ho'; subst ho'
          rw [L.keep y hy hn] at ho
          have hao : o.alive = true := by cases o with
            | cells vs u m => cases m <;> simp_all [AObj.writable, AObj.alive]
            | _ => rfl
          have hb : b.alive = true := by rw [← k3.modes.2]; exact ha
          rcases h.dom x' q hp' with ⟨q2, hq2⟩ | ⟨c1, c2⟩
          · obtain ⟨o2, ho2, ha2, _⟩ := h.alive x' b ⟨q2, hq2⟩ k1 hb
            have := h.le _ _ hq2
            rw [hp'] at this; injection this with this; subst this
            obtain ⟨z', hz', hpz⟩ := inv x' q hq2
            obtain ⟨c, c1, d1, d2, d3⟩ := L.obj x' z' hz'
            rw [d1] at ho2; injection ho2 with ho2; subst ho2
            exact hR.sep y z' p q o c1 hp hpz (fun hh => hn x' (by rw [hh]; exact hz')) ho d2 hw (by rw [d3.modes.2]; exact ha2)
          · exact apart y p o hp hn ho hao q.block ⟨x', q, b, hp', k1, h.neww x' b c1 k1 hb, rfl⟩
        · rw [L.keep y hy hn] at ho
          rw [L.keep z hy' hn'] at ho'
          exact hR.sep y z p q o o' hp hp' hne ho ho' hw ha
    refine ⟨rel', le, ?_, ?_, by rw [L.len]; omega, h.os, h.tape, h.output, h.size, ?_, ?_, ?_, ?_, h.frz⟩
    · intro y p e
      rcases pre y p e with ⟨x, hx, hp⟩ | ⟨hy, hp, hn⟩
      · rcases Nat.lt_or_ge x M0.length with hl | hl
        · rw [L.old x hl] at hx
          rcases h.dom x p hp with ⟨q, hq⟩ | ⟨a, _⟩
          · obtain ⟨y', hy', hp'⟩ := inv x q hq
            rw [hx] at hy'; injection hy' with hy'; subst hy'
            exact .inl ⟨q, hp'⟩
          · omega
        · obtain ⟨o, o1, h1, h2, _⟩ := L.obj' x y hx
          have hx' := (List.getElem?_eq_some_iff.1 h1).1
          rw [L.fresh x hl hx'] at hx; injection hx with hx
          exact .inr ⟨by omega, (List.getElem?_eq_some_iff.1 h2).1⟩
      · exact .inl ⟨p, hp⟩
    · intro y h1 h2
      obtain ⟨p, hp⟩ := h.new (M0.length + (y - M.length)) (by omega) (by rw [L.len] at h2; omega)
      exact ⟨p, by simp only [ρ']; rw [if_neg (by omega)]; exact hp⟩
    · intro k hk hn
      refine h.kept k hk fun hw => hn ?_
      obtain ⟨y', p', o', e', ho', hw', hb', _⟩ := wbU k hw
      exact ⟨y', p', o', e', ho', hw', hb'⟩
    · rintro k ⟨y, p, o, e, ho, hw, hb⟩ hk
      rcases pre y p e with ⟨x, hx, hp⟩ | ⟨hy, hp, hn⟩
      · obtain ⟨a, a1, h1, h2, h3⟩ := L.obj' x y hx
        rw [h2] at ho; injection ho with ho; subst ho
        obtain ⟨y', p', o', e', ho', hw', hb', _⟩ := wbU k (h.wb k ⟨x, p, a, hp, h1, by rw [← h3.modes.1]; exact hw, hb⟩ hk)
        exact ⟨y', p', o', e', ho', hw', hb'⟩
      · rw [L.keep y hy hn] at ho
        exact ⟨y, p, o, hp, ho, hw, hb⟩
    · intro y o' hp ho' ha
      obtain ⟨p, hp⟩ := hp
      obtain ⟨o, ho, _⟩ := hR.obj y p hp
      have hy := (List.getElem?_eq_some_iff.1 ho).1
      by_cases hx : ∃ x, σ x = some y
      · obtain ⟨x, hx⟩ := hx
        have hxl := (L.dom x y hx).1
        obtain ⟨a, a1, h1, h2, h3⟩ := L.obj' x y (by rw [L.old x hxl]; exact hx)
        rw [h2] at ho'; injection ho' with ho'; subst ho'
        obtain ⟨o2, ho2, ha2, hw2⟩ := h.alive x a ⟨p, by show (σ x).bind ρ = some p; rw [hx]; exact hp⟩ h1 (by rw [← h3.modes.2]; exact ha)
        obtain ⟨b, b1, k1, k2, k3⟩ := L.obj x y hx
        rw [k1] at ho2; injection ho2 with ho2; subst ho2
        exact ⟨b1, k2, by rw [k3.modes.2]; exact ha2, fun hw => by rw [h3.modes.1]; exact hw2 (by rw [← k3.modes.1]; exact hw)⟩
      · rw [L.keep y hy (fun x hx' => hx ⟨x, hx'⟩)] at ho'
        exact ⟨o', ho', ha, id⟩
    · intro y o' hy ho' ha
      have hyl := (List.getElem?_eq_some_iff.1 ho').1
      rw [L.len] at hyl
      obtain ⟨a, a1, h1, h2, h3⟩ := L.obj' (M0.length + (y - M.length)) y (by rw [L.fresh _ (by omega) (by omega)]; congr 1; omega)
      rw [h2] at ho'; injection ho' with ho'; subst ho'
      rw [h3.modes.1]
      exact h.neww _ a (by omega) h1 (by rw [← h3.modes.2]; exact ha)

theorem SCall.lift {f : FuncId} {args args1 : List Value} {v v1 : Value} {σ σ' : Nat → Option Nat} {M0 M0' M M1 : Mem} (h : SCall P .normal f args M0 (.ret v) M0' false) (L : Lift σ σ' M0 M0' M M1) (ha : RenL σ args args1) (hv : RenV σ' v v1) :
    SCall P .normal f args1 M (.ret v1) M1 false := by
  intro ρ w argsC Cs hR hargs hCs
  obtain ⟨hR0, hE⟩ := L.ext hR
  obtain ⟨ρ1, w1, fr, h1, h2, h3, h4, h5, h6, h7, fn, v', h8, h9, h10⟩ := h _ w argsC Cs hR0 (ha.down (fun x y e => by simp [e]) hargs) hCs
  obtain ⟨ρ', k1, k2⟩ := hE h1
  exact ⟨ρ', w1, fr, k1, h2, h3, h4, h5, h6, h7, fn, v', h8, h9, hv.up k2 h10⟩

end Go.Proofs.YtabkcbaknjenmaaAM

/-
  AN ABSTRACT MACHINE OVER THE MODEL, part 29: what a function answers, as the model itself says it.
-/
set_option linter.unusedVariables false
set_option linter.unusedSimpArgs false
namespace Go.Proofs.YtabkcbaknjenmaaAM
open Go
variable {P : Program}

/-- Called with args over M, f answers v, and M' is the memory behind it. -/
def Ret (P : Program) (f : FuncId) (args : List Value) (M : Mem) (v : Value) (M' : Mem) : Prop := SCall P .normal f args M (.ret v) M' false
theorem ret_ok (P : Program) : IntrOk P (Ret P) := fun _ _ _ _ _ h => h
theorem Ret.of_ev (hP : P.follows .mixedOrders = true) {f : FuncId} {args : List Value} {M M' : Mem} {v : Value} {rc : Bool} (h : Ev P (Ret P) (.call .normal f args M) (.call (.ret v) M' rc)) : Ret P f args M v M' := by
  intro ρ w argsC Cs hR ha hC
  obtain ⟨ρ', w', fr, h1, h2, h3⟩ := (sound hP (ret_ok P) h : SCall P .normal f args M (.ret v) M' rc) ρ w argsC Cs hR ha hC
  rw [hC rc] at h2
  exact ⟨ρ', w', fr, h1, h2, h3⟩
theorem Ret.ev {f : FuncId} {args : List Value} {M M' : Mem} {v : Value} (h : Ret P f args M v M') : Ev P (Ret P) (.call .normal f args M) (.call (.ret v) M' false) := .intr h
/-- By running it. -/
theorem Ret.run (hP : P.follows .mixedOrders = true) {X : FuncId → List Value → Mem → Option (Value × Mem)} (hX : ∀ f args M v M', X f args M = some (v, M') → Ret P f args M v M') {n : Nat} {f : FuncId} {args : List Value} {M M' : Mem} {v : Value} {rc : Bool}
    (h : runF P X n (.call .normal f args M) = some (.call (.ret v) M' rc)) : Ret P f args M v M' := .of_ev hP (runF_ev hX n _ _ h)
/-- What leaves nothing behind may be called over any memory. -/
theorem Ret.plain {f : FuncId} {args : List Value} {v : Value} {M' : Mem} (h : Ret P f args [] v M') (ha : args.all plain1 = true) (hv : plain1 v = true) (M : Mem) : Ret P f args M v M := forget h ha hv rfl M

end Go.Proofs.YtabkcbaknjenmaaAM

/-
  AN ABSTRACT MACHINE OVER THE MODEL, part 30: what is to be shown for code to end as wished, as one Prop that the kernel can lay open. Operations.
-/
set_option linter.unusedVariables false
set_option linter.unusedSimpArgs false
namespace Go.Proofs.YtabkcbaknjenmaaAM
open Go
variable {P : Program}

/-- Of two, by a bool. -/
noncomputable def cnd (c : Bool) (A B : Prop) : Prop := Bool.rec (motive := fun _ => Prop) B A c
theorem cnd_t {A B : Prop} (h : A) : cnd true A B := h
theorem cnd_f {A B : Prop} (h : B) : cnd false A B := h
theorem cnd_of {c : Bool} {A B : Prop} (h1 : c = true → A) (h2 : c = false → B) : cnd c A B := by cases c; exact h2 rfl; exact h1 rfl
theorem cnd_or {c : Bool} {A B : Prop} (h : cnd c A B) : (c = true ∧ A) ∨ (c = false ∧ B) := by cases c; exact .inr ⟨rfl, h⟩; exact .inl ⟨rfl, h⟩

theorem cnd_mono {c : Bool} {A B A' B' : Prop} (h1 : A → A') (h2 : B → B') (h : cnd c A B) : cnd c A' B' := by cases c; exact h2 h; exact h1 h

/-- A value of the kind of another one. -/
def shapeV (z : Value) (k : Value → Prop) : Prop :=
  match z with
  | .bool _ => ∃ b, k (.bool b)
  | .int kd _ => ∃ n, k (.int kd n)
  | .string _ => ∃ s, k (.string s)
  | .pointer _ => ∃ x o, k (.pointer (some ⟨x, o, none⟩))
  | .slice _ _ _ => ∃ a n c, k (.slice a n c)
  | .map _ => ∃ r, k (.map (some r))
  | .nilFunc => (∃ (g : FuncId) (cap : List Value), k (.func (.func g) #[] ⟨cap⟩)) ∨ k .nilFunc
  | _ => ∃ v, k v
theorem shapeV_ex {z : Value} {k : Value → Prop} (h : shapeV z k) : ∃ v, k v := by
  unfold shapeV at h
  split at h
  · obtain ⟨_, h⟩ := h; exact ⟨_, h⟩
  · obtain ⟨_, h⟩ := h; exact ⟨_, h⟩
  · obtain ⟨_, h⟩ := h; exact ⟨_, h⟩
  · obtain ⟨_, _, h⟩ := h; exact ⟨_, h⟩
  · obtain ⟨_, _, _, h⟩ := h; exact ⟨_, h⟩
  · obtain ⟨_, h⟩ := h; exact ⟨_, h⟩
  · rcases h with ⟨_, _, h⟩ | h
    · exact ⟨_, h⟩
    · exact ⟨_, h⟩
  · exact h
def shapeL : List Value → (List Value → Prop) → Prop
  | [], k => k []
  | z :: l, k => shapeV z fun v => shapeL l fun vs => k (v :: vs)
theorem shapeL_ex : ∀ {l : List Value} {k : List Value → Prop}, shapeL l k → ∃ v, k v
  | [], k, h => ⟨_, h⟩
  | z :: l, k, h => by
    obtain ⟨v, h⟩ := shapeV_ex h
    obtain ⟨vs, h⟩ := shapeL_ex h
    exact ⟨_, h⟩
def shape (z : Value) (k : Value → Prop) : Prop :=
  match z with
  | .agg ⟨l⟩ => shapeL l fun vs => k (.agg ⟨vs⟩)
  | .tuple ⟨l⟩ => shapeL l fun vs => k (.tuple ⟨vs⟩)
  | z => shapeV z k
theorem shape_ex {z : Value} {k : Value → Prop} (h : shape z k) : ∃ v, k v := by
  unfold shape at h
  split at h
  · obtain ⟨v, h⟩ := shapeL_ex h; exact ⟨_, h⟩
  · obtain ⟨v, h⟩ := shapeL_ex h; exact ⟨_, h⟩
  · exact shapeV_ex h
def shapeT (P : Program) (ty : TypeId) (k : Value → Prop) : Prop :=
  match zeroVT P ty with
  | some z => shape z k
  | none => ∃ v, k v
theorem shapeT_ex {ty : TypeId} {k : Value → Prop} (h : shapeT P ty k) : ∃ v, k v := by
  unfold shapeT at h
  split at h
  · exact shape_ex h
  · exact h
/-- A call's answer, by its type. -/
def shapeC (P : Program) (ty : TypeId) (k : Value → Prop) : Prop :=
  match P.underlying ty with
  | some (.tuple ⟨tys⟩) => shapeL (tys.map fun ty => (zeroVT P ty).getD .nilIface) fun vs => k (.tuple ⟨vs⟩)
  | some .invalid => k (.tuple ⟨[]⟩)
  | _ => shapeT P ty k
theorem shapeC_ex {ty : TypeId} {k : Value → Prop} (h : shapeC P ty k) : ∃ v, k v := by
  unfold shapeC at h
  split at h
  · obtain ⟨v, h⟩ := shapeL_ex h; exact ⟨_, h⟩
  · exact ⟨_, h⟩
  · exact shapeT_ex h

/-- One round of a range over a function: the model's word. -/
def Rd (P : Program) (l : Nat) (args : List Value) (M : Mem) (b : Bool) (M' : Mem) : Prop := ∃ rc, Ev P (Ret P) (.round l args M) (.call (.ret (.bool b)) M' rc)

/-- An operation that calls nothing. With sym, memory is not looked into: what is read and written is asked for. -/
noncomputable def wpLight (P : Program) (sym : Bool) (o : Op) (oty : TypeId) (t : List Value) (M : Mem) (K : Value → Mem → Prop) : Prop :=
  match sym with
  | false => match o with
    | .binOp op ty x y z => match binF op ((evC x).get t) ((evC y).get t) with
      | some v => K v M
      | none => shapeT P oty fun v => binA P op ty x y ((evC x).get t) ((evC y).get t) = some v ∧ K v M
    | .index ty x i => shapeT P oty fun v => indexA P ty ((evC x).get t) ((evC i).get t) = some v ∧ K v M
    | o => match (opC P o).run t M with
      | some (v, M') => K v M'
      | none => False
  | true => match o with
    | .load ty a => match (evC a).get t with
      | .pointer (some ⟨x, o, none⟩) => shapeT P ty fun v => rdVar P M ty x o = some v ∧ K v M
      | _ => False
    | .store ty a b => match (evC a).get t with
      | .pointer (some ⟨x, o, none⟩) => match sizeT P ty with
        | some n => match Nat.beq n ((evC b).get t).cells.toList.length with
          | true => ∃ M', wrCells M x o ((evC b).get t).cells.toList = some M' ∧ K undef M'
          | false => False
        | none => False
      | _ => False
    | .binOp op ty x y z => match binF op ((evC x).get t) ((evC y).get t) with
      | some v => K v M
      | none => shapeT P oty fun v => binA P op ty x y ((evC x).get t) ((evC y).get t) = some v ∧ K v M
    | .indexAddr ty x i => ∃ b o, idxA P ty ((evC x).get t) ((evC i).get t) = some (.pointer (some ⟨b, o, none⟩)) ∧ K (.pointer (some ⟨b, o, none⟩)) M
    | .index ty x i => shapeT P oty fun v => indexA P ty ((evC x).get t) ((evC i).get t) = some v ∧ K v M
    | .slice ty x lo hi mx => match mx.isSome && hi.isNone with
      | true => False
      | false => shapeT P oty fun v => sliceA P M ty ((evC x).get t) (lo.map fun a => (evC a).get t) (hi.map fun a => (evC a).get t) (mx.map fun a => (evC a).get t) = some v ∧ K v M
    | .lookup ty m k ok => match mapT P ty with
      | some (_, e) => shapeT P e fun v => match ok with
        | true => ∃ b, lookupA P M ty ((evC m).get t) ((evC k).get t) true = some (.tuple ⟨[v, .bool b]⟩) ∧ K (.tuple ⟨[v, .bool b]⟩) M
        | false => lookupA P M ty ((evC m).get t) ((evC k).get t) false = some v ∧ K v M
      | none => False
    | .mapUpdate ty m k v | .insert ty m k v => ∃ M', updA P M ty ((evC m).get t) ((evC k).get t) ((evC v).get t) = some M' ∧ K undef M'
    | .makeSlice ty l c => ∃ a n c' M', makeA P M ty ((evC l).get t) ((evC c).get t) = some (.slice a n c', M') ∧ K (.slice a n c') M'
    | .next it true => match (evC it).get t with
      | .pointer (some ⟨r, 0, none⟩) => ∃ s pos, M[r]? = some (.siter s pos) ∧ cnd (Nat.blt pos s.size) (K (.tuple ⟨[.bool true, .int .i64 pos, .int .i32 (Utf8.decode s pos).1]⟩) (M.set r (.siter s (pos + (Utf8.decode s pos).2)))) (K (.tuple ⟨[.bool false]⟩) M)
      | _ => False
    | .call ⟨.builtin b, args, argTypes⟩ => match b, argTypes.toList, args.toList with
      | .len, [ty], [x] => match (evC x).get t with
        | .map r => ∃ n, lenA P M ty (.map r) = some (.int .i64 n) ∧ K (.int .i64 n) M
        | v => match lenA P M ty v with
          | some v => K v M
          | none => False
      | .append, [ty, xty], [s, x] => ∃ a n c M', appendA P M ty xty ((evC s).get t) ((evC x).get t) = some (.slice a n c, M') ∧ K (.slice a n c) M'
      | .copy, [dty, _], [d, s] => ∃ n M', copyA P M dty ((evC d).get t) ((evC s).get t) = some (.int .i64 n, M') ∧ K (.int .i64 n) M'
      | .min, _, _ => match builtinA P t .min argTypes args M with
        | some (v, M') => K v M'
        | none => False
      | .max, _, _ => match builtinA P t .max argTypes args M with
        | some (v, M') => K v M'
        | none => False
      | _, _, _ => shapeT P oty fun v => ∃ M', builtinA P t b argTypes args M = some (v, M') ∧ K v M'
    | .convert s d x => match (evC x).get t with
      | .int k n => match keep1 (pureS P (convert s d (.int k n))) with
        | some v => K v M
        | none => shapeT P oty fun v => keep1 (pureS P (convert s d (.int k n))) = some v ∧ K v M
      | v => shapeT P oty fun v' => (plain1 v = true ∧ keep1 (pureS P (convert s d v)) = some v') ∧ K v' M
    | .unOp .not ty x => match (evC x).get t with
      | .bool b => K (.bool (!b)) M
      | _ => False
    | o => match (opC P o).run t M with
      | some (v, M') => K v M'
      | none => False

theorem wpLight_ev {sym : Bool} {o : Op} {oty : TypeId} {t : List Value} {M : Mem} {K : Value → Mem → Prop} (h : wpLight P sym o oty t M K) : ∃ v M', opEval P t o M = some (v, M') ∧ K v M' := by
  have run : ∀ o, (match (opC P o).run t M with
      | some (v, M') => K v M'
      | none => False) → ∃ v M', opEval P t o M = some (v, M') ∧ K v M' := by
    intro o h
    split at h
    · rename_i v M' hr
      exact ⟨v, M', opC_eval hr, h⟩
    · exact h.elim
  have bin : ∀ op ty x y z, (match binF op ((evC x).get t) ((evC y).get t) with
      | some v => K v M
      | none => shapeT P oty fun v => binA P op ty x y ((evC x).get t) ((evC y).get t) = some v ∧ K v M) → ∃ v M', opEval P t (.binOp op ty x y z) M = some (v, M') ∧ K v M' := by
    intro op ty x y z h
    simp only [evC_eq] at h
    split at h
    · rename_i v hv
      exact ⟨v, M, by simp only [opEval, binF_binA hv]; rfl, h⟩
    · obtain ⟨v, h1, h2⟩ := shapeT_ex h
      exact ⟨v, M, by simp only [opEval, h1]; rfl, h2⟩
  have idx : ∀ ty x i, (shapeT P oty fun v => indexA P ty ((evC x).get t) ((evC i).get t) = some v ∧ K v M) → ∃ v M', opEval P t (.index ty x i) M = some (v, M') ∧ K v M' := by
    intro ty x i h
    simp only [evC_eq] at h
    obtain ⟨v, h1, h2⟩ := shapeT_ex h
    exact ⟨v, M, by simp only [opEval, h1]; rfl, h2⟩
  unfold wpLight at h
  split at h
  · split at h
    · exact bin _ _ _ _ _ h
    · exact idx _ _ _ h
    · exact run _ h
  · split at h
    · rename_i ty a
      simp only [evC_eq] at h
      split at h
      · rename_i x o ha
        obtain ⟨v, h1, h2⟩ := shapeT_ex h
        exact ⟨v, M, by simp only [opEval, ha, h1]; rfl, h2⟩
      · exact h.elim
    · rename_i ty a b
      simp only [evC_eq] at h
      split at h
      · rename_i x o ha
        split at h
        · rename_i n hn
          split at h
          · rename_i hb
            obtain ⟨M', h1, h2⟩ := h
            have hb' := Nat.eq_of_beq_eq_true hb
            refine ⟨undef, M', ?_, h2⟩
            simp only [opEval, ha]
            rw [if_pos (by rw [hn, hb']; simp), h1]; rfl
          · exact h.elim
        · exact h.elim
      · exact h.elim
    · exact bin _ _ _ _ _ h
    · simp only [evC_eq] at h
      obtain ⟨b, o, h1, h2⟩ := h
      exact ⟨_, M, by simp only [opEval, h1]; rfl, h2⟩
    · exact idx _ _ _ h
    · rename_i ty x lo hi mx
      split at h
      · exact h.elim
      · rename_i hm
        simp only [evC_eq] at h
        obtain ⟨v, h1, h2⟩ := shapeT_ex h
        refine ⟨v, M, ?_, h2⟩
        simp only [opEval, hm]
        show (sliceA P M ty (evA t x) (lo.map fun a => evA t a) (hi.map fun a => evA t a) (mx.map fun a => evA t a)).map _ = _
        rw [h1]; rfl
    · simp only [evC_eq] at h
      split at h
      · obtain ⟨v, h⟩ := shapeT_ex h
        split at h
        · obtain ⟨b, h1, h2⟩ := h
          exact ⟨_, M, by simp only [opEval, h1]; rfl, h2⟩
        · obtain ⟨h1, h2⟩ := h
          exact ⟨v, M, by simp only [opEval, h1]; rfl, h2⟩
      · exact h.elim
    · simp only [evC_eq] at h
      obtain ⟨M', h1, h2⟩ := h
      exact ⟨undef, M', by simp only [opEval, h1]; rfl, h2⟩
    · simp only [evC_eq] at h
      obtain ⟨M', h1, h2⟩ := h
      exact ⟨undef, M', by simp only [opEval, h1]; rfl, h2⟩
    · simp only [evC_eq] at h
      obtain ⟨a, n, c, M', h1, h2⟩ := h
      exact ⟨_, M', by simp only [opEval, h1], h2⟩
    · rename_i it
      simp only [evC_eq] at h
      split at h
      · rename_i r hr
        obtain ⟨s, pos, h1, h2⟩ := h
        rcases cnd_or h2 with ⟨hb, h2⟩ | ⟨hb, h2⟩
        · have hlt : pos < s.size := by simpa [Nat.blt_eq] using hb
          exact ⟨_, _, by simp only [opEval, nextA, hr, h1, if_pos hlt], h2⟩
        · have hlt : ¬ pos < s.size := by
            intro hl
            have h3 : Nat.blt pos s.size = true := by rw [Nat.blt_eq]; exact hl
            rw [hb] at h3; simp at h3
          exact ⟨_, _, by simp only [opEval, nextA, hr, h1, if_neg hlt], h2⟩
      · exact h.elim
    · rename_i b args argTypes
      split at h
      · rename_i ty x ht ha
        simp only [evC_eq] at h
        split at h
        · rename_i r hr
          obtain ⟨n, h1, h2⟩ := h
          exact ⟨_, M, by simp only [opEval, builtinA, ht, ha, hr, h1]; rfl, h2⟩
        · split at h
          · rename_i hv
            exact ⟨_, M, by simp only [opEval, builtinA, ht, ha, hv]; rfl, h⟩
          · exact h.elim
      · rename_i ty xty s x ht ha
        simp only [evC_eq] at h
        obtain ⟨a, n, c, M', h1, h2⟩ := h
        exact ⟨_, M', by simp only [opEval, builtinA, ht, ha, h1], h2⟩
      · rename_i ht ha
        simp only [evC_eq] at h
        obtain ⟨n, M', h1, h2⟩ := h
        exact ⟨_, M', by simp only [opEval, builtinA, ht, ha, h1], h2⟩
      · split at h
        · rename_i h1
          exact ⟨_, _, by simp only [opEval, h1], h⟩
        · exact h.elim
      · split at h
        · rename_i h1
          exact ⟨_, _, by simp only [opEval, h1], h⟩
        · exact h.elim
      · obtain ⟨v, M', h1, h2⟩ := shapeT_ex h
        exact ⟨v, M', by simp only [opEval, h1], h2⟩
    · rename_i s d x
      simp only [evC_eq] at h
      split at h
      · rename_i k n hx
        split at h
        · rename_i v hv
          refine ⟨v, M, ?_, h⟩
          simp only [opEval, hx]
          rw [if_pos (show plain1 (Value.int k n) = true from rfl), hv]; rfl
        · obtain ⟨v, h1, h2⟩ := shapeT_ex h
          refine ⟨v, M, ?_, h2⟩
          simp only [opEval, hx]
          rw [if_pos (show plain1 (Value.int k n) = true from rfl), h1]; rfl
      · obtain ⟨v', ⟨h0, h1⟩, h2⟩ := shapeT_ex h
        refine ⟨v', M, ?_, h2⟩
        simp only [opEval]
        rw [if_pos h0, h1]; rfl
    · rename_i ty x
      simp only [evC_eq] at h
      split at h
      · rename_i b hb
        refine ⟨_, M, ?_, h⟩
        simp only [opEval, hb]
        cases b <;> rfl
      · exact h.elim
    · exact run _ h

/-- One value: a call is asked for. -/
noncomputable def wpVal (P : Program) (sym : Bool) (o : Op) (oty : TypeId) (t : List Value) (M : Mem) (K : Value → Mem → Prop) : Prop :=
  match o with
  | .call ⟨.value f, args, tys⟩ => match (evC f).get t with
    | .func (.func g) first cap => cnd (walksIn P g) (shapeC P oty fun v => ∃ M', Ret P g (first.toList ++ (args.toList.map (fun a => (evC a).get t) ++ cap.toList)) M v M' ∧ K v M') False
    | .func (.yield l) _ _ => ∃ b M', Rd P l (args.toList.map (fun a => (evC a).get t)) M b M' ∧ K (.bool b) M'
    | _ => False
  | o => wpLight P sym o oty t M K
theorem wpVal_ev {sym : Bool} {ops : Array Oper} {i : Nat} {o : Oper} {t : List Value} {M : Mem} {K : Value → Mem → Prop} (ho : ops[i]? = some o) (hk : okOp o.op = true) (h : wpVal P sym o.op o.type t M K) :
    ∃ v M', (∃ rc, Ev P (Ret P) (.val ops i t M) (.call (.ret v) M' rc)) ∧ (heavyOp o.op = false → opEval P t o.op M = some (v, M')) ∧ K v M' := by
  unfold wpVal at h
  split at h
  · rename_i f args tys hop
    have hh : heavyOp o.op = true := by rw [hop]; rfl
    simp only [evC_eq] at h
    split at h
    · rename_i g first cap hf
      rcases cnd_or h with ⟨hw, h⟩ | ⟨_, h⟩
      · obtain ⟨v, M', h1, h2⟩ := shapeC_ex h
        exact ⟨v, M', ⟨_, .valCall ho hk hop (by simp only [calleeA, hf, List.append_assoc]) hw h1.ev⟩, fun hf => by rw [hh] at hf; simp at hf, h2⟩
      · exact h.elim
    · rename_i l x y hf
      obtain ⟨b, M', ⟨rc, h1⟩, h2⟩ := h
      exact ⟨_, M', ⟨_, .valYield ho hk hop (by simp only [yieldA, hf]) h1⟩, fun hf => by rw [hh] at hf; simp at hf, h2⟩
    · exact h.elim
  · obtain ⟨v, M', h1, h2⟩ := wpLight_ev h
    exact ⟨v, M', ⟨_, .valLight ho hk h1⟩, fun _ => h1, h2⟩

/-- Is an operation of a region done? -/
noncomputable def guardP (ops : Array Oper) (o : Oper) (t : List Value) (K : Bool → List Value → Prop) : Prop :=
  match o.guard with
  | none => K true t
  | some (j, want) => match (ops[j]?).bind (·.dst) with
    | none => K false t
    | some d => match (nthC d).get t with
      | .bool b => cnd b (K want ((setC d).set t (.bool true))) (K (Bool.rec true false want) ((setC d).set t (.bool false)))
      | _ => K false t
theorem set_same {t : List Value} {d : Nat} {b : Bool} (h : t.getD d undef = .bool b) : t.set d (.bool b) = t := by
  rw [List.getD_eq_getElem?_getD] at h
  cases e : t[d]? with
  | none => rw [e] at h; simp [undef] at h
  | some v =>
    rw [e] at h; simp at h; subst h
    apply List.ext_getElem?
    intro i
    rw [List.getElem?_set]
    split
    · rename_i hi; subst hi
      have hlt := (List.getElem?_eq_some_iff.1 e).1
      rw [if_pos hlt, e]
    · rfl
theorem guardP_ev {ops : Array Oper} {o : Oper} {t : List Value} {K : Bool → List Value → Prop} (h : guardP ops o t K) : K (wantedA ops t o) t := by
  unfold guardP at h
  unfold wantedA yieldedA
  split at h
  · rename_i hg; rw [hg]; exact h
  · rename_i j want hg
    rw [hg]
    simp only
    split at h
    · rename_i hd
      rw [hd]; simpa using h
    · rename_i d hd
      rw [hd]
      simp only [nthC_eq, setC_eq, Option.bind_some] at h ⊢
      split at h
      · rename_i b hb
        have hs := set_same hb
        have hgd := hb
        rw [List.getD_eq_getElem?_getD] at hgd
        have he : t[d]? = some (.bool b) := by
          cases e : t[d]? with
          | none => rw [e] at hgd; simp [undef] at hgd
          | some v => rw [e] at hgd; simp at hgd; rw [hgd]
        rw [he]
        rcases cnd_or h with ⟨hbt, h⟩ | ⟨hbf, h⟩
        · subst hbt
          rw [hs] at h
          cases want <;> exact h
        · subst hbf
          rw [hs] at h
          cases want <;> exact h
      · rename_i hne
        rw [List.getD_eq_getElem?_getD] at hne
        cases e : t[d]? with
        | none => simpa using h
        | some v =>
          rw [e] at hne
          cases v <;> first | (simpa using h) | exact absurd rfl (hne _)

end Go.Proofs.YtabkcbaknjenmaaAM

/-
  AN ABSTRACT MACHINE OVER THE MODEL, part 30b: code turns only the variables that it writes.
-/
set_option linter.unusedVariables false
set_option linter.unusedSimpArgs false
namespace Go.Proofs.YtabkcbaknjenmaaAM
open Go
variable {P : Program}

/-! ### What code writes -/
def dstsO (ops : Array Oper) : List Nat := ops.toList.filterMap (·.dst)
def wrC : Code → List Nat
  | .seq a b => wrC a ++ wrC b
  | .cond _ a b => wrC a ++ wrC b
  | .block _ c => wrC c
  | .loop c => wrC c
  | .region _ ops _ => dstsO ops
  | .rangeFunc _ _ a b => wrC a ++ wrC b
  | _ => []
/-- Nothing is put off, nothing recovered. -/
def calmO (o : Oper) : Bool := match o.op with
  | .defer _ => false
  | .call ⟨.builtin .recover, _, _⟩ => false
  | _ => true
def calmC : Code → Bool
  | .seq a b => match calmC a with | true => calmC b | false => false
  | .cond _ a b => match calmC a with | true => calmC b | false => false
  | .block _ c => calmC c
  | .loop c => calmC c
  | .region _ ops _ => ops.toList.all calmO
  | .rangeFunc _ _ _ _ => false
  | _ => true
/-- Only those variables have turned. -/
def FrW (W : List Nat) (t t' : List Value) : Prop := t'.length = t.length ∧ ∀ i, i ∉ W → t'[i]? = t[i]?
theorem FrW.refl (W : List Nat) (t : List Value) : FrW W t t := ⟨rfl, fun _ _ => rfl⟩
theorem FrW.trans {W : List Nat} {a b c : List Value} (h : FrW W a b) (k : FrW W b c) : FrW W a c := ⟨k.1.trans h.1, fun i hi => (k.2 i hi).trans (h.2 i hi)⟩
theorem FrW.mono {W W' : List Nat} {a b : List Value} (h : FrW W a b) (hs : ∀ i ∈ W, i ∈ W') : FrW W' a b := ⟨h.1, fun i hi => h.2 i (fun hw => hi (hs i hw))⟩
theorem FrW.put {W : List Nat} (t : List Value) {dst : Option Tmp} (v : Value) (h : ∀ d, dst = some d → d ∈ W) : FrW W t (putA t dst v) := by
  cases dst with
  | none => exact .refl _ _
  | some d => exact ⟨List.length_set, fun i hi => List.getElem?_set_ne (fun e => hi (by rw [← e]; exact h d rfl))⟩
theorem dsts_mem {ops : Array Oper} {i : Nat} {o : Oper} (h : ops[i]? = some o) {d : Nat} (hd : o.dst = some d) : d ∈ dstsO ops := by
  refine List.mem_filterMap.2 ⟨o, ?_, hd⟩
  have : ops.toList[i]? = some o := by simpa using h
  exact List.mem_of_getElem? this

def FrT : Task → Res → Prop
  | .code _ _ _ c s, .code _ s' => calmC c = true → FrW (wrC c) s.t s'.t ∧ s'.d = s.d ∧ s'.rc = s.rc
  | .op _ _ _ ops i s, .code _ s' => ops.toList.all calmO = true → FrW (dstsO ops) s.t s'.t ∧ s'.d = s.d ∧ s'.rc = s.rc
  | .ops _ _ _ ops l s, .code _ s' => ops.toList.all calmO = true → FrW (dstsO ops) s.t s'.t ∧ s'.d = s.d ∧ s'.rc = s.rc
  | _, _ => True
theorem calm_at {ops : Array Oper} {i : Nat} {o : Oper} (h : ops[i]? = some o) (hc : ops.toList.all calmO = true) : calmO o = true := by
  have : ops.toList[i]? = some o := by simpa using h
  exact List.all_eq_true.1 hc o (List.mem_of_getElem? this)
theorem calm_seq {a b : Code} (h : calmC (.seq a b) = true) : calmC a = true ∧ calmC b = true := by
  simp only [calmC] at h
  split at h
  · rename_i ha; exact ⟨ha, h⟩
  · simp at h
theorem calm_cond {c : Operand} {a b : Code} (h : calmC (.cond c a b) = true) : calmC a = true ∧ calmC b = true := by
  simp only [calmC] at h
  split at h
  · rename_i ha; exact ⟨ha, h⟩
  · simp at h
theorem fr3 {W : List Nat} {a b c : St} (h : FrW W a.t b.t ∧ b.d = a.d ∧ b.rc = a.rc) (k : FrW W b.t c.t ∧ c.d = b.d ∧ c.rc = b.rc) : FrW W a.t c.t ∧ c.d = a.d ∧ c.rc = a.rc :=
  ⟨h.1.trans k.1, k.2.1.trans h.2.1, k.2.2.trans h.2.2⟩
theorem fr3m {W W' : List Nat} {a b : St} (hs : ∀ i ∈ W, i ∈ W') (h : FrW W a.t b.t ∧ b.d = a.d ∧ b.rc = a.rc) : FrW W' a.t b.t ∧ b.d = a.d ∧ b.rc = a.rc := ⟨h.1.mono hs, h.2⟩
theorem ev_frame {I : FuncId → List Value → Mem → Value → Mem → Prop} {tk : Task} {r : Res} (h : Ev P I tk r) : FrT tk r := by
  induction h with
  | skip => exact fun _ => ⟨.refl _ _, rfl, rfl⟩
  | @seqN fn rd k a b s s1 r h h' i1 i2 =>
    cases r with
    | call o M rc => trivial
    | code e s2 =>
      intro hc
      obtain ⟨h1, h2⟩ := calm_seq hc
      exact fr3 (fr3m (fun i hi => List.mem_append_left _ hi) (i1 h1)) (fr3m (fun i hi => List.mem_append_right _ hi) (i2 h2))
  | seqX h he i1 => exact fun hc => fr3m (fun i hi => List.mem_append_left _ hi) (i1 (calm_seq hc).1)
  | @cond fn rd k c x y s r t hx hc h ih =>
    cases r with
    | call o M rc => trivial
    | code e s2 =>
      intro hq
      obtain ⟨h1, h2⟩ := calm_cond hq
      cases t
      · exact fr3m (fun i hi => List.mem_append_right _ hi) (ih h2)
      · exact fr3m (fun i hi => List.mem_append_left _ hi) (ih h1)
  | block h ih => exact fun hc => ih hc
  | @loopN fn rd k c s s1 r h h' i1 i2 =>
    cases r with
    | call o M rc => trivial
    | code e s2 => exact fun hc => fr3 (i1 hc) (i2 hc)
  | loopX h he i1 => exact fun hc => i1 hc
  | exit => exact fun _ => ⟨.refl _ _, rfl, rfl⟩
  | ret => exact fun _ => ⟨.refl _ _, rfl, rfl⟩
  | @region fn rd k id ops s r h ih =>
    cases r with
    | call o M rc => trivial
    | code e s2 => exact ih
  | @regionD fn rd k id ops s tr vs rcs hok h0 hs hoff hl hh hc ih =>
    have key : ∀ n, n ≤ ops.size → FrW (dstsO ops) s.t (tr n).t ∧ (tr n).d = s.d ∧ (tr n).rc = s.rc := by
      intro n
      induction n with
      | zero => intro _; rw [h0]; exact ⟨.refl _ _, rfl, rfl⟩
      | succ n ihn =>
        intro hn
        obtain ⟨k1, k2, k3⟩ := ihn (by omega)
        have ho : ops[n]? = some ops[n] := by simp [show n < ops.size by omega]
        have e := hs n _ ho
        have et : (tr (n + 1)).t = putA (tr n).t ops[n].dst (vs n) := by rw [e]; rfl
        have ed : (tr (n + 1)).d = (tr n).d := by rw [e]; rfl
        have er : (tr (n + 1)).rc = (tr n).rc := by rw [e]; rfl
        exact ⟨k1.trans (by rw [et]; exact .put _ _ fun d hd => dsts_mem ho hd), by rw [ed]; exact k2, by rw [er]; exact k3⟩
    exact fun _ => key ops.size (Nat.le_refl _)
  | rangeFn => exact fun hc => by simp [calmC] at hc
  | @rangeFnJ fn k f params assign body s g first cap M2 st j fn' t' ps as bd df r v0 rc0 hx hf hwk h hl hb hnl hj i1 i2 =>
    cases r with
    | call o M rc => trivial
    | code e s2 => exact fun hc => by simp [calmC] at hc
  | rangeFnP => exact fun hc => by simp [calmC] at hc
  | opsNil => exact fun _ => ⟨.refl _ _, rfl, rfl⟩
  | @opsCons fn rd k ops i l s s1 r h h' i1 i2 =>
    cases r with
    | call o M rc => trivial
    | code e s2 => exact fun hc => fr3 (i1 hc) (i2 hc)
  | opsConsX h he i1 => exact i1
  | opSkip ho hw => exact fun _ => ⟨.put _ _ fun d hd => dsts_mem ho hd, rfl, rfl⟩
  | opVal ho hw h ih => exact fun _ => ⟨.put _ _ fun d hd => dsts_mem ho hd, rfl, rfl⟩
  | opValP ho hw h ih => exact fun _ => ⟨.refl _ _, rfl, rfl⟩
  | opPanic ho hw hk hop hv => exact fun _ => ⟨.refl _ _, rfl, rfl⟩
  | opDefer ho hw hk hop hc hf => exact fun hq => by have := calm_at ho hq; simp [calmO, hop] at this
  | @opRecover s fn ops i o c v ho hw hop hc hrc =>
    intro hq
    have := calm_at ho hq
    obtain ⟨cl, ar, ty⟩ := c
    simp only at hc
    subst hc
    simp [calmO, hop] at this
  | opRecoverN ho hw hop hc => exact fun hq => ⟨.put _ _ fun d hd => dsts_mem ho hd, rfl, rfl⟩
  | _ => trivial

/-! ### What is known of variables -/
/-- These variables have these values. -/
def okT : List (Nat × Value) → List Value → Prop
  | [], _ => True
  | (i, v) :: l, t => t.getD i undef = v ∧ okT l t
def TIn (N : Nat) (ps : List (Nat × Value)) (t : List Value) : Prop := t.length = N ∧ okT ps t
noncomputable def patchP : List (Nat × Value) → List Value → List Value
  | [], t => t
  | (i, v) :: l, t => patchP l ((setC i).set t v)
def genC (u : Nat → Value) : Nat → Nat → List Value
  | 0, _ => []
  | n + 1, i => u i :: genC u n (i + 1)
noncomputable def getsC : List Nat → List Value → List Value
  | [], _ => []
  | i :: l, t => (nthC i).get t :: getsC l t
noncomputable def pinsC (t : List Value) : List Nat → List (Nat × Value)
  | [] => []
  | i :: l => (i, (nthC i).get t) :: pinsC t l
def lenC : List Value → Nat → Nat
  | [], n => n
  | _ :: l, n => lenC l (Nat.succ n)
theorem lenC_eq : ∀ (t : List Value) (n : Nat), lenC t n = t.length + n
  | [], n => by simp [lenC]
  | v :: l, n => by simp only [lenC, lenC_eq l, List.length_cons]; omega
theorem okT_pins (t : List Value) : ∀ l, okT (pinsC t l) t
  | [] => trivial
  | i :: l => ⟨by rw [nthC_eq], okT_pins t l⟩
theorem set_getD {t : List Value} {i : Nat} {v : Value} (h : t.getD i undef = v) : t.set i v = t := by
  apply List.ext_getElem?
  intro j
  by_cases hj : i = j
  · subst hj
    by_cases hl : i < t.length
    · rw [List.getElem?_set_self hl, ← h]; simp [List.getD, hl]
    · rw [List.getElem?_eq_none (by simpa using hl), List.getElem?_eq_none (by simpa using hl)]
  · rw [List.getElem?_set_ne hj]
theorem patchP_ok : ∀ {l : List (Nat × Value)} {t : List Value}, okT l t → patchP l t = t
  | [], t, h => rfl
  | (i, v) :: l, t, h => by
    simp only [patchP, setC_eq, set_getD h.1]
    exact patchP_ok h.2
theorem genC_at (u : Nat → Value) : ∀ (n i j : Nat), (genC u n i)[j]? = if j < n then some (u (i + j)) else none
  | 0, i, j => by simp [genC]
  | n + 1, i, 0 => by simp [genC]
  | n + 1, i, j + 1 => by
    simp only [genC, List.getElem?_cons_succ, genC_at u n (i + 1) j]
    rw [show i + 1 + j = i + (j + 1) by omega]
    simp
theorem genC_self (t : List Value) : genC (fun i => t.getD i undef) t.length 0 = t := by
  apply List.ext_getElem?
  intro j
  rw [genC_at]
  split
  · rename_i hj; simp [List.getD, hj]
  · rename_i hj; rw [List.getElem?_eq_none (by omega)]
theorem okT_gets : ∀ {l : List Nat} {vs : List Value} {t : List Value}, getsC l t = vs → okT (l.zip vs) t
  | [], vs, t, h => by simp [okT]
  | i :: l, vs, t, h => by
    subst h
    refine ⟨by rw [nthC_eq], ?_⟩
    exact okT_gets rfl
theorem okT_append {l k : List (Nat × Value)} {t : List Value} : okT (l ++ k) t ↔ okT l t ∧ okT k t := by
  induction l with
  | nil => simp [okT]
  | cons x l ih => simp [okT, ih, and_assoc]
/-- Which variables, as bits. -/
def maskL : List Nat → Nat
  | [] => 0
  | i :: l => Nat.lor (maskL l) (Nat.shiftLeft 1 i)
def bitC (m i : Nat) : Bool := Nat.beq (Nat.land 1 (Nat.shiftRight m i)) 1
theorem bitC_eq (m i : Nat) : bitC m i = m.testBit i := by
  unfold bitC Nat.testBit
  have h : Nat.land 1 (Nat.shiftRight m i) = 1 &&& (m >>> i) := rfl
  rw [h]
  have h1 : 1 &&& (m >>> i) = (m >>> i) % 2 := by rw [Nat.and_comm, Nat.and_one_is_mod]
  rw [h1]
  have : (m >>> i) % 2 < 2 := Nat.mod_lt _ (by decide)
  rcases (show (m >>> i) % 2 = 0 ∨ (m >>> i) % 2 = 1 by omega) with h | h <;> rw [h] <;> rfl
theorem maskL_mem : ∀ {l : List Nat} {i : Nat}, i ∈ l → bitC (maskL l) i = true
  | j :: l, i, h => by
    rw [bitC_eq]
    have e : maskL (j :: l) = maskL l ||| (1 <<< j) := rfl
    rw [e, Nat.testBit_or]
    rcases List.mem_cons.1 h with rfl | h
    · simp [Nat.testBit_shiftLeft]
    · have := maskL_mem h
      rw [bitC_eq] at this
      simp [this]
def mixC (w : Nat → Value) (m : Nat) : Nat → List Value → List Value
  | _, [] => []
  | i, v :: l => (match bitC m i with | true => w i | false => v) :: mixC w m (i + 1) l
theorem mixC_at (w : Nat → Value) (m : Nat) : ∀ (t : List Value) (i j : Nat), (mixC w m i t)[j]? = (t[j]?).map fun v => match bitC m (i + j) with | true => w (i + j) | false => v
  | [], i, j => by simp [mixC]
  | v :: l, i, 0 => by simp [mixC]
  | v :: l, i, j + 1 => by
    simp only [mixC, List.getElem?_cons_succ, mixC_at w m l (i + 1) j]
    rw [show i + 1 + j = i + (j + 1) by omega]
theorem mixC_fr {W : List Nat} {t t' : List Value} (h : FrW W t t') : mixC (fun i => t'.getD i undef) (maskL W) 0 t = t' := by
  apply List.ext_getElem?
  intro j
  rw [mixC_at, Nat.zero_add]
  by_cases hj : j < t.length
  · have hj' : j < t'.length := by rw [h.1]; exact hj
    rw [List.getElem?_eq_getElem hj, List.getElem?_eq_getElem hj', Option.map_some]
    congr 1
    split
    · simp [List.getD, hj']
    · rename_i hb
      have hn : j ∉ W := fun hm => by rw [maskL_mem hm] at hb; simp at hb
      have := h.2 j hn
      rw [List.getElem?_eq_getElem hj, List.getElem?_eq_getElem hj'] at this
      exact (Option.some.inj this).symm
  · rw [List.getElem?_eq_none (by omega), List.getElem?_eq_none (by rw [h.1]; omega)]; rfl
/-- None of these is among those. -/
def freeC (m : Nat) : List (Nat × Value) → Bool
  | [] => true
  | (i, _) :: l => match bitC m i with | true => false | false => freeC m l
theorem freeC_ok {W : List Nat} {t t' : List Value} (h : FrW W t t') : ∀ {l : List (Nat × Value)}, freeC (maskL W) l = true → okT l t → okT l t'
  | [], _, _ => trivial
  | (i, v) :: l, hf, hk => by
    simp only [freeC] at hf
    split at hf
    · simp at hf
    · rename_i hb
      have hn : i ∉ W := fun hm => by rw [maskL_mem hm] at hb; simp at hb
      refine ⟨?_, freeC_ok h hf hk.2⟩
      rw [← hk.1]
      simp [List.getD, h.2 i hn]

end Go.Proofs.YtabkcbaknjenmaaAM

/-
  AN ABSTRACT MACHINE OVER THE MODEL, part 31: what is to be shown for code to end as wished. Regions, code, calls, loops.
-/
set_option linter.unusedVariables false
set_option linter.unusedSimpArgs false
namespace Go.Proofs.YtabkcbaknjenmaaAM
open Go
variable {P : Program}

structure Env where
  f : FuncId
  rd : Option Nat
  k : Ctx
/-- A called function's own code. -/
def Env.fn (f : FuncId) : Env := ⟨f, none, .normal⟩
/-- The body of a range over a function. -/
def Env.rf (f : FuncId) (l : Nat) : Env := ⟨f, some l, .normal⟩

/-- Operations in a row. -/
noncomputable def wpOps (P : Program) (E : Env) (sym : Bool) (ops : Array Oper) : List Oper → List Value → List ADef → Mem → Bool → (AExit → St → Prop) → Prop
  | [], t, d, M, rc, Q => Q .normal ⟨t, d, M, rc⟩
  | o :: l, t, d, M, rc, Q => match okOp o.op with
    | false => False
    | true => guardP ops o t fun w t => match w with
      | false => wpOps P E sym ops l ((putC o.dst).set t undef) d M rc Q
      | true => match o.op with
        | .panic x => match (evC x).get t with
          | .iface ty v => Q (.panic (.iface ty v)) ⟨t, d, M, rc⟩
          | _ => False
        | .defer c => match E.rd, c.callee with
          | none, .value f => match (evC f).get t with
            | .func (.func g) first cap => wpOps P E sym ops l ((putC o.dst).set t undef) (.call g (first.toList ++ c.args.toList.map (evA t)) cap.toList :: d) M rc Q
            | _ => False
          | _, _ => False
        | .call ⟨.builtin .recover, args, tys⟩ => match E.rd, E.k with
          | none, .deferred (some v) => match rc with
            | false => wpOps P E sym ops l ((putC o.dst).set t v) d M true Q
            | true => False
          | none, .deferred none => wpOps P E sym ops l ((putC o.dst).set t .nilIface) d M rc Q
          | _, _ => False
        | op => wpVal P sym op o.type t M fun v M' => wpOps P E sym ops l ((putC o.dst).set t v) d M' rc Q

theorem wpOps_ev {E : Env} {sym : Bool} {ops : Array Oper} {Q : AExit → St → Prop} : ∀ (l : List Oper) (i : Nat) (t : List Value) (d : List ADef) (M : Mem) (rc : Bool),
    (∀ m o, l[m]? = some o → ops[i + m]? = some o) → wpOps P E sym ops l t d M rc Q → ∃ e s', Ev P (Ret P) (.ops E.f E.rd E.k ops (List.range' i l.length) ⟨t, d, M, rc⟩) (.code e s') ∧ FrW (dstsO ops) t s'.t ∧ Q e s'
  | [], i, t, d, M, rc, ho, h => ⟨.normal, _, .opsNil, .refl _ _, h⟩
  | o :: l, i, t, d, M, rc, ho, h => by
    have ih := wpOps_ev (E := E) (sym := sym) (ops := ops) (Q := Q) l (i + 1)
    have ho0 : ops[i]? = some o := ho 0 o rfl
    have hol : ∀ m o', l[m]? = some o' → ops[i + 1 + m]? = some o' := fun m o' hm => by
      have := ho (m + 1) o' (by simpa using hm)
      rw [show i + 1 + m = i + (m + 1) by omega]; exact this
    unfold wpOps at h
    rw [List.length_cons, List.range'_succ]
    split at h
    · exact h.elim
    · rename_i hk
      have h := guardP_ev h
      split at h
      · rename_i hw
        rw [putC_eq] at h
        obtain ⟨e, s', h1, hf, h2⟩ := ih _ _ _ _ hol h
        exact ⟨e, s', .opsCons (.opSkip (s := ⟨t, d, M, rc⟩) ho0 hw) h1, (FrW.put _ _ fun d hd => dsts_mem ho0 hd).trans hf, h2⟩
      · rename_i hw
        split at h
        · rename_i x hop
          simp only [evC_eq] at h
          split at h
          · rename_i ty v hx
            exact ⟨_, _, .opsConsX (.opPanic (s := ⟨t, d, M, rc⟩) ho0 hw hk hop hx) (by simp), .refl _ _, h⟩
          · exact h.elim
        · rename_i c hop
          split at h
          · rename_i f hrd hcal
            simp only [evC_eq] at h
            split at h
            · rename_i g first cap hf0
              rw [putC_eq] at h
              obtain ⟨e, s', h1, hf, h2⟩ := ih _ _ _ _ hol h
              refine ⟨e, s', .opsCons (s1 := ({ (⟨t, d, M, rc⟩ : St) with d := .call g (first.toList ++ c.args.toList.map (evA t)) cap.toList :: d }.put o.dst undef)) ?_ h1, (FrW.put _ _ fun d hd => dsts_mem ho0 hd).trans hf, h2⟩
              rw [hrd]
              exact .opDefer (s := ⟨t, d, M, rc⟩) ho0 hw hk hop hcal hf0
            · exact h.elim
          · exact h.elim
        · rename_i args tys hop
          split at h
          · rename_i v hrd hkk
            split at h
            · rw [putC_eq] at h
              obtain ⟨e, s', h1, hf, h2⟩ := ih _ _ _ _ hol h
              refine ⟨e, s', .opsCons (s1 := ({ (⟨t, d, M, false⟩ : St) with rc := true }.put o.dst v)) ?_ h1, (FrW.put _ _ fun d hd => dsts_mem ho0 hd).trans hf, h2⟩
              rw [hrd, hkk]
              exact .opRecover (s := ⟨t, d, M, false⟩) ho0 hw hop rfl rfl
            · exact h.elim
          · rename_i hrd hkk
            rw [putC_eq] at h
            obtain ⟨e, s', h1, hf, h2⟩ := ih _ _ _ _ hol h
            refine ⟨e, s', .opsCons (s1 := ((⟨t, d, M, rc⟩ : St).put o.dst .nilIface)) ?_ h1, (FrW.put _ _ fun d hd => dsts_mem ho0 hd).trans hf, h2⟩
            rw [hrd, hkk]
            exact .opRecoverN (s := ⟨t, d, M, rc⟩) ho0 hw hop rfl
          · exact h.elim
        · rename_i hne1 hne2 hne3
          obtain ⟨v, M', ⟨rc', h1⟩, _, h2⟩ := wpVal_ev (i := i) ho0 hk h
          rw [putC_eq] at h2
          obtain ⟨e, s', h3, hf, h4⟩ := ih _ _ _ _ hol h2
          exact ⟨e, s', .opsCons (.opVal (s := ⟨t, d, M, rc⟩) ho0 hw h1) h3, (FrW.put _ _ fun d hd => dsts_mem ho0 hd).trans hf, h4⟩

/-- Operations that draw their order, in the text's: K is given how things stand behind each. -/
noncomputable def wpRow (P : Program) (sym : Bool) (ops : Array Oper) (d : List ADef) (rc : Bool) : List Oper → List Value → Mem → (List (Value × St) → Prop) → Prop
  | [], t, M, K => K []
  | o :: l, t, M, K => match okOp o.op with
    | false => False
    | true => guardP ops o t fun w t => match w with
      | false => wpRow P sym ops d rc l ((putC o.dst).set t undef) M fun q => K ((undef, ⟨(putC o.dst).set t undef, d, M, rc⟩) :: q)
      | true => wpVal P sym o.op o.type t M fun v M' => wpRow P sym ops d rc l ((putC o.dst).set t v) M' fun q => K ((v, ⟨(putC o.dst).set t v, d, M', rc⟩) :: q)

def RowOk (P : Program) (ops : Array Oper) : Nat → St → List Oper → List (Value × St) → Prop
  | _, _, [], q => q = []
  | i, s, o :: l, q => ∃ v s1 q', q = (v, s1) :: q' ∧ s1 = { s with M := s1.M }.put o.dst v ∧ (wantedA ops s.t o = false → v = undef ∧ s1.M = s.M) ∧
      (wantedA ops s.t o = true → heavyOp o.op = false → okOp o.op = true ∧ opEval P s.t o.op s.M = some (v, s1.M)) ∧
      (wantedA ops s.t o = true → heavyOp o.op = true → ∃ rc, Ev P (Ret P) (.val ops i s.t s.M) (.call (.ret v) s1.M rc)) ∧ RowOk P ops (i + 1) s1 l q'

theorem wpRow_ok {sym : Bool} {ops : Array Oper} {d : List ADef} {rc : Bool} : ∀ (l : List Oper) (i : Nat) (t : List Value) (M : Mem) (K : List (Value × St) → Prop),
    (∀ m o, l[m]? = some o → ops[i + m]? = some o) → wpRow P sym ops d rc l t M K → ∃ q, RowOk P ops i ⟨t, d, M, rc⟩ l q ∧ K q
  | [], i, t, M, K, ho, h => ⟨[], rfl, h⟩
  | o :: l, i, t, M, K, ho, h => by
    have ih := wpRow_ok (sym := sym) (ops := ops) (d := d) (rc := rc) l (i + 1)
    have ho0 : ops[i]? = some o := ho 0 o rfl
    have hol : ∀ m o', l[m]? = some o' → ops[i + 1 + m]? = some o' := fun m o' hm => by
      have := ho (m + 1) o' (by simpa using hm)
      rw [show i + 1 + m = i + (m + 1) by omega]; exact this
    unfold wpRow at h
    split at h
    · exact h.elim
    · rename_i hk
      have h := guardP_ev h
      split at h
      · rename_i hw
        obtain ⟨q, h1, h2⟩ := ih _ _ _ hol h
        refine ⟨_, ⟨undef, ⟨(putC o.dst).set t undef, d, M, rc⟩, q, rfl, ?_, fun _ => ⟨rfl, rfl⟩, fun e => ?_, fun e => ?_, h1⟩, h2⟩
        · simp only [St.put, putC_eq]
        · rw [hw] at e; simp at e
        · rw [hw] at e; simp at e
      · rename_i hw
        obtain ⟨v, M', h1, h2, h3⟩ := wpVal_ev (i := i) ho0 hk h
        obtain ⟨q, h4, h5⟩ := ih _ _ _ hol h3
        refine ⟨_, ⟨v, ⟨(putC o.dst).set t v, d, M', rc⟩, q, rfl, ?_, fun e => ?_, fun _ hh => ⟨hk, h2 hh⟩, fun _ _ => h1, h4⟩, h5⟩
        · simp only [St.put, putC_eq]
        · rw [hw] at e; simp at e

def trQ (s : St) (q : List (Value × St)) : Nat → St
  | 0 => s
  | i + 1 => match q[i]? with | some x => x.2 | none => s

theorem RowOk.len {ops : Array Oper} : ∀ {l : List Oper} {i : Nat} {s : St} {q : List (Value × St)}, RowOk P ops i s l q → q.length = l.length
  | [], i, s, q, h => by simp [RowOk] at h; simp [h]
  | o :: l, i, s, q, h => by
    obtain ⟨v, s1, q', rfl, _, _, _, _, h⟩ := h
    simp [h.len]
theorem RowOk.at_ {ops : Array Oper} : ∀ {l : List Oper} {i : Nat} {s : St} {q : List (Value × St)}, RowOk P ops i s l q → ∀ (m : Nat) (o : Oper), l[m]? = some o →
    ∃ v, (q[m]?).map (·.1) = some v ∧ trQ s q (m + 1) = { trQ s q m with M := (trQ s q (m + 1)).M }.put o.dst v ∧ (wantedA ops (trQ s q m).t o = false → v = undef ∧ (trQ s q (m + 1)).M = (trQ s q m).M) ∧
      (wantedA ops (trQ s q m).t o = true → heavyOp o.op = false → okOp o.op = true ∧ opEval P (trQ s q m).t o.op (trQ s q m).M = some (v, (trQ s q (m + 1)).M)) ∧
      (wantedA ops (trQ s q m).t o = true → heavyOp o.op = true → ∃ rc, Ev P (Ret P) (.val ops (i + m) (trQ s q m).t (trQ s q m).M) (.call (.ret v) (trQ s q (m + 1)).M rc))
  | [], i, s, q, h, m, o, ho => by simp at ho
  | o' :: l, i, s, q, h, m, o, ho => by
    obtain ⟨v, s1, q', rfl, h1, h2, h3, h4, h5⟩ := h
    cases m with
    | zero =>
      simp at ho; subst ho
      exact ⟨v, rfl, h1, h2, h3, h4⟩
    | succ m =>
      obtain ⟨v', g1, g2, g3, g4, g5⟩ := h5.at_ m o (by simpa using ho)
      have hlt : m < l.length := by
        have : l[m]? = some o := by simpa using ho
        exact (List.getElem?_eq_some_iff.1 this).1
      have hlen := h5.len
      have e1 : ∀ k, k ≤ m + 1 → trQ s ((v, s1) :: q') (k + 1) = trQ s1 q' k := by
        intro k hk
        cases k with
        | zero => rfl
        | succ k =>
          have : k < q'.length := by omega
          simp [trQ, List.getElem?_eq_getElem this]
      rw [e1 (m + 1) (Nat.le_refl _), e1 m (by omega)]
      refine ⟨v', by simpa using g1, g2, g3, g4, ?_⟩
      rw [show i + (m + 1) = i + 1 + m by omega]
      exact g5

def touchP : List Nat → Mem → Mem → Prop
  | [], _, _ => True
  | x :: l, M, M' => (x < M.length → M'[x]? = M[x]?) ∧ touchP l M M'
theorem touchP_at : ∀ {l : List Nat} {M M' : Mem}, touchP l M M' → ∀ x ∈ l, x < M.length → M'[x]? = M[x]?
  | [], M, M', h, x, hx => by simp at hx
  | y :: l, M, M', h, x, hx => by
    rcases List.mem_cons.1 hx with rfl | hx
    · exact h.1
    · exact touchP_at h.2 x hx
/-- What may disturb each other does not. -/
noncomputable def calmP (ops : Array Oper) (tr : Nat → St) : List (Nat × Nat) → Prop
  | [] => True
  | q :: l => (match ops[q.2]? with
    | none => True
    | some o => match (wantC ops o).want (tr q.2).t with
      | false => True
      | true => touchP (touchA o.op (tr q.2).t (tr q.2).M.length) (tr q.1).M (tr (q.1 + 1)).M) ∧ calmP ops tr l
theorem calmP_at {ops : Array Oper} {tr : Nat → St} : ∀ {l : List (Nat × Nat)}, calmP ops tr l → ∀ q ∈ l, ∀ o, ops[q.2]? = some o → wantedA ops (tr q.2).t o = true → ∀ x ∈ touchA o.op (tr q.2).t (tr q.2).M.length, x < (tr q.1).M.length → (tr (q.1 + 1)).M[x]? = (tr q.1).M[x]?
  | [], h, q, hq => by simp at hq
  | q' :: l, h, q, hq => by
    rcases List.mem_cons.1 hq with rfl | hq
    · intro o ho hw x hx hlt
      have h1 := h.1
      rw [ho] at h1
      simp only [wantC_eq, hw] at h1
      exact touchP_at h1 x hx hlt
    · exact calmP_at h.2 q hq
noncomputable def wpDraw (P : Program) (sym : Bool) (ops : Array Oper) (t : List Value) (d : List ADef) (M : Mem) (rc : Bool) (Q : St → Prop) : Prop :=
  match regionOk ops with
  | false => False
  | true => wpRow P sym ops d rc ops.toList t M fun q => calmP ops (trQ ⟨t, d, M, rc⟩ q) (conf ops) ∧ Q (trQ ⟨t, d, M, rc⟩ q ops.size)
theorem wpDraw_ev {fn : FuncId} {rd : Option Nat} {k : Ctx} {id : Nat} {sym : Bool} {ops : Array Oper} {t : List Value} {d : List ADef} {M : Mem} {rc : Bool} {Q : St → Prop} (h : wpDraw P sym ops t d M rc Q) :
    ∃ s', Ev P (Ret P) (.code fn rd k (.region id ops true) ⟨t, d, M, rc⟩) (.code .normal s') ∧ FrW (dstsO ops) t s'.t ∧ Q s' := by
  unfold wpDraw at h
  split at h
  · exact h.elim
  · rename_i hok
    obtain ⟨q, h1, h2, h3⟩ := wpRow_ok ops.toList 0 t M _ (fun m o hm => by simpa using hm) h
    have g := h1.at_
    have at_ := fun (i : Nat) (o : Oper) (ho : ops[i]? = some o) => g i o (by simpa using ho)
    have rcs : ∀ i, ∃ rc', ∀ o, ops[i]? = some o → wantedA ops (trQ ⟨t, d, M, rc⟩ q i).t o = true → heavyOp o.op = true → Ev P (Ret P) (.val ops i (trQ ⟨t, d, M, rc⟩ q i).t (trQ ⟨t, d, M, rc⟩ q i).M) (.call (.ret (((q[i]?).map (·.1)).getD undef)) (trQ ⟨t, d, M, rc⟩ q (i + 1)).M rc') := by
      intro i
      cases ho : ops[i]? with
      | none => exact ⟨false, fun o e => by simp at e⟩
      | some o =>
        obtain ⟨v, e0, _, _, _, e4⟩ := at_ i o ho
        by_cases hc : wantedA ops (trQ ⟨t, d, M, rc⟩ q i).t o = true ∧ heavyOp o.op = true
        · obtain ⟨rc', e5⟩ := e4 hc.1 hc.2
          refine ⟨rc', fun o' e _ _ => ?_⟩
          rw [e0]
          rw [Nat.zero_add] at e5
          exact e5
        · exact ⟨false, fun o' e a b => by simp at e; subst e; exact absurd ⟨a, b⟩ hc⟩
    have key : ∀ n, n ≤ ops.size → FrW (dstsO ops) t (trQ ⟨t, d, M, rc⟩ q n).t := by
      intro n
      induction n with
      | zero => intro _; exact .refl _ _
      | succ n ihn =>
        intro hn
        have k1 := ihn (by omega)
        have ho : ops[n]? = some ops[n] := by simp [show n < ops.size by omega]
        obtain ⟨v, e0, e1, _⟩ := at_ n _ ho
        have et : (trQ ⟨t, d, M, rc⟩ q (n + 1)).t = putA (trQ ⟨t, d, M, rc⟩ q n).t ops[n].dst v := by rw [e1]; rfl
        exact k1.trans (by rw [et]; exact .put _ _ fun d hd => dsts_mem ho hd)
    refine ⟨_, .regionD (tr := trQ ⟨t, d, M, rc⟩ q) (vs := fun i => ((q[i]?).map (·.1)).getD undef) (rcs := fun i => (rcs i).choose) hok rfl (fun i o ho => ?_) (fun i o ho hw => ?_) (fun i o ho hw hh => ?_) (fun i o ho hw hh => (rcs i).choose_spec o ho hw hh) (calmP_at h2), key _ (Nat.le_refl _), h3⟩
    · obtain ⟨v, e0, e1, _⟩ := at_ i o ho
      rw [e0]; exact e1
    · obtain ⟨v, e0, e1, e2, _⟩ := at_ i o ho
      rw [e0]; exact e2 hw
    · obtain ⟨v, e0, e1, e2, e3, _⟩ := at_ i o ho
      rw [e0]; exact e3 hw hh

/-! ### Code -/
def stepC : Code → Nat → Code
  | .seq a b, n => match n with | 0 => a | _ => b
  | .cond _ a b, n => match n with | 0 => a | _ => b
  | .block _ c, _ => c
  | .loop c, _ => c
  | .rangeFunc _ _ a b, n => match n with | 0 => a | _ => b
  | _, _ => .skip
def codeAt (c : Code) : List Nat → Code
  | [] => c
  | x :: p => codeAt (stepC c x) p
def codeOf (P : Program) (f : FuncId) (p : List Nat) : Code :=
  match P.funcs[f]? with
  | some fn => match fn.body with
    | some c => codeAt c p
    | none => .skip
  | none => .skip
theorem codeAt_skip : ∀ p, codeAt .skip p = .skip
  | [] => rfl
  | _ :: p => codeAt_skip p
theorem codeAt_append : ∀ (p q : List Nat) (c : Code), codeAt c (p ++ q) = codeAt (codeAt c p) q
  | [], q, c => rfl
  | x :: p, q, c => codeAt_append p q (stepC c x)
theorem codeOf_append (f : FuncId) (p q : List Nat) : codeOf P f (p ++ q) = codeAt (codeOf P f p) q := by
  unfold codeOf
  split
  · split
    · exact codeAt_append _ _ _
    · exact (codeAt_skip q).symm
  · exact (codeAt_skip q).symm

/-- A piece of a function's code, run: the model's word. -/
def Lp (P : Program) (E : Env) (p : List Nat) (s : St) (e : AExit) (s' : St) : Prop := Ev P (Ret P) (.code E.f E.rd E.k (codeOf P E.f p) s) (.code e s')

/-- How code may be left, other than at its end. -/
def exitsOf : Code → List AExit
  | .seq a b => exitsOf a ++ exitsOf b
  | .cond _ a b => exitsOf a ++ exitsOf b
  | .block id c => (exitsOf c).filter fun e => match e with | .exit i => !(Nat.beq i id) | _ => true
  | .loop c => exitsOf c
  | .rangeFunc _ _ _ c => exitsOf c
  | .exit id => [.exit id]
  | .ret => [.ret]
  | _ => []
def dupE (e : AExit) : List AExit → Bool
  | [] => false
  | x :: l => match e, x with
    | .exit i, .exit j => match Nat.beq i j with | true => true | false => dupE e l
    | .ret, .ret => true
    | _, _ => dupE e l
def nubE : List AExit → List AExit
  | [] => []
  | e :: l => match dupE e l with | true => nubE l | false => e :: nubE l

/-- Of what kind the variables are where a loop is left. -/
abbrev Ann := List (List Nat × List Nat × List (Option Nat × List (Tmp × Option TypeId)))
def sameP : List Nat → List Nat → Bool
  | [], [] => true
  | x :: a, y :: b => match Nat.beq x y with | true => sameP a b | false => false
  | _, _ => false
def sameE : Option Nat → AExit → Bool
  | some i, .exit j => Nat.beq i j
  | none, .ret => true
  | _, _ => false
def annEx : List (Option Nat × List (Tmp × Option TypeId)) → AExit → List (Tmp × Option TypeId)
  | [], _ => []
  | (q, l) :: a, e => match sameE q e with | true => l | false => annEx a e
def annAt : Ann → List Nat → AExit → List (Tmp × Option TypeId)
  | [], _, _ => []
  | (q, _, l) :: a, p, e => match sameP q p with | true => annEx l e | false => annAt a p e
/-- The variables that are looked at behind a loop's head. -/
def annIn : Ann → List Nat → List Nat
  | [], _ => []
  | (q, l, _) :: a, p => match sameP q p with | true => l | false => annIn a p
noncomputable def shapeP (P : Program) : List (Tmp × Option TypeId) → (List (Nat × Value) → Prop) → Prop
  | [], k => k []
  | (i, some ty) :: l, k => shapeT P ty fun v => shapeP P l fun o => k ((i, v) :: o)
  | (_, none) :: l, k => shapeP P l k
theorem shapeP_ex : ∀ {l : List (Tmp × Option TypeId)} {k : List (Nat × Value) → Prop}, shapeP P l k → ∃ o, k o
  | [], k, h => ⟨[], h⟩
  | (i, some ty) :: l, k, h => by
    obtain ⟨v, h⟩ := shapeT_ex h
    obtain ⟨o, h⟩ := shapeP_ex h
    exact ⟨_, h⟩
  | (i, none) :: l, k, h => shapeP_ex (l := l) h
/-- A loop that is run from a state of which only some variables are told, and what some variables are behind it. -/
def LpX (P : Program) (E : Env) (p : List Nat) (t : List Value) (d : List ADef) (M : Mem) (rc : Bool) (e : AExit) (o : List (Nat × Value)) (d' : List ADef) (rc' : Bool) (M' : Mem) : Prop :=
  ∃ t', Lp P E p ⟨t, d, M, rc⟩ e ⟨t', d', M', rc'⟩ ∧ FrW (wrC (codeOf P E.f p)) t t' ∧ okT o t'
def LpT (P : Program) (E : Env) (p : List Nat) (t : List Value) (d : List ADef) (M : Mem) (rc : Bool) (e : AExit) (o : List (Nat × Value)) (M' : Mem) : Prop :=
  ∃ t', Lp P E p ⟨t, d, M, rc⟩ e ⟨t', d, M', rc⟩ ∧ FrW (wrC (codeOf P E.f p)) t t' ∧ okT o t'
def anyE : List AExit → (AExit → Prop) → Prop
  | [], _ => False
  | [e], k => k e
  | e :: l, k => k e ∨ anyE l k
theorem anyE_ex : ∀ {l : List AExit} {k : AExit → Prop}, anyE l k → ∃ e, k e
  | [], k, h => h.elim
  | [e], k, h => ⟨e, h⟩
  | e :: e' :: l, k, h => by
    rcases h with h | h
    · exact ⟨e, h⟩
    · exact anyE_ex (l := e' :: l) h

noncomputable def wpC (P : Program) (E : Env) (sym : Bool) (ann : Ann) : Code → List Nat → List Value → List ADef → Mem → Bool → (AExit → St → Prop) → Prop
  | .skip, p, t, d, M, rc, Q => Q .normal ⟨t, d, M, rc⟩
  | .seq a b, p, t, d, M, rc, Q => wpC P E sym ann a (p ++ [0]) t d M rc fun e s => match e with
    | .normal => wpC P E sym ann b (p ++ [1]) s.t s.d s.M s.rc Q
    | e => Q e s
  | .cond x a b, p, t, d, M, rc, Q => match okX x with
    | false => False
    | true => match x with
      | .tmp i => match (nthC i).get t with
        | .bool c => cnd c (wpC P E sym ann a (p ++ [0]) ((setC i).set t (.bool true)) d M rc Q) (wpC P E sym ann b (p ++ [1]) ((setC i).set t (.bool false)) d M rc Q)
        | _ => False
      | x => match (evC x).get t with
        | .bool c => cnd c (wpC P E sym ann a (p ++ [0]) t d M rc Q) (wpC P E sym ann b (p ++ [1]) t d M rc Q)
        | _ => False
  | .block id c, p, t, d, M, rc, Q => wpC P E sym ann c (p ++ [0]) t d M rc fun e s => Q (e.inBlock id) s
  | .loop c, p, t, d, M, rc, Q => match calmC c with
    | true => ∀ t0 : List Value, TIn (lenC t 0) (pinsC t (annIn ann p)) t0 → anyE (nubE (exitsOf c)) fun e => shapeP P (annAt ann p e) fun o => ∃ M', LpT P E p t0 d M rc e o M' ∧ ∀ w : Nat → Value, Q e ⟨patchP o (mixC w (maskL (wrC c)) 0 t), d, M', rc⟩
    | false => ∀ t0 : List Value, TIn (lenC t 0) (pinsC t (annIn ann p)) t0 → anyE (nubE (exitsOf c)) fun e => shapeP P (annAt ann p e) fun o => ∃ d' rc' M', LpX P E p t0 d M rc e o d' rc' M' ∧ ∀ w : Nat → Value, Q e ⟨patchP o (mixC w (maskL (wrC c)) 0 t), d', M', rc'⟩
  | .rangeFunc f ps a c, p, t, d, M, rc, Q => ∀ t0 : List Value, TIn (lenC t 0) (pinsC t (annIn ann p)) t0 → anyE (.normal :: nubE (exitsOf c)) fun e => ∃ M', Lp P E p ⟨t0, d, M, rc⟩ e ⟨t0, .mark M.length :: d, M', rc⟩ ∧ Q e ⟨t, .mark M.length :: d, M', rc⟩
  | .exit id, p, t, d, M, rc, Q => Q (.exit id) ⟨t, d, M, rc⟩
  | .ret, p, t, d, M, rc, Q => Q .ret ⟨t, d, M, rc⟩
  | .region id ops draw, p, t, d, M, rc, Q => match draw with
    | false => wpOps P E sym ops ops.toList t d M rc Q
    | true => wpDraw P sym ops t d M rc fun s => Q .normal s
  | _, _, _, _, _, _, _ => False

theorem wpC_ev {E : Env} {sym : Bool} {ann : Ann} : ∀ (c : Code) (p : List Nat) (t : List Value) (d : List ADef) (M : Mem) (rc : Bool) (Q : AExit → St → Prop), codeOf P E.f p = c → wpC P E sym ann c p t d M rc Q →
    ∃ e s', Ev P (Ret P) (.code E.f E.rd E.k c ⟨t, d, M, rc⟩) (.code e s') ∧ FrW (wrC c) t s'.t ∧ Q e s' := by
  intro c
  induction c with
  | skip => intro p t d M rc Q hp h; exact ⟨_, _, .skip, .refl _ _, h⟩
  | seq a b iha ihb =>
    intro p t d M rc Q hp h
    simp only [wpC] at h
    obtain ⟨e, s1, h1, f1, h2⟩ := iha (p ++ [0]) _ _ _ _ _ (by rw [codeOf_append, hp]; rfl) h
    split at h2
    · obtain ⟨e', s2, h3, f2, h4⟩ := ihb (p ++ [1]) _ _ _ _ _ (by rw [codeOf_append, hp]; rfl) h2
      exact ⟨e', s2, .seqN h1 h3, (f1.mono fun i hi => List.mem_append_left _ hi).trans (f2.mono fun i hi => List.mem_append_right _ hi), h4⟩
    · rename_i hne
      exact ⟨_, _, .seqX h1 (fun he => hne he), f1.mono fun i hi => List.mem_append_left _ hi, h2⟩
  | cond x a b iha ihb =>
    intro p t d M rc Q hp h
    simp only [wpC] at h
    split at h
    · exact h.elim
    · rename_i hx
      split at h
      · rename_i i
        simp only [nthC_eq, setC_eq] at h
        split at h
        · rename_i c hc
          rcases cnd_or h with ⟨hb, h⟩ | ⟨hb, h⟩
          · subst hb
            rw [set_same hc] at h
            obtain ⟨e, s1, h1, f1, h2⟩ := iha (p ++ [0]) _ _ _ _ _ (by rw [codeOf_append, hp]; rfl) h
            exact ⟨e, s1, .cond (t := true) hx hc h1, f1.mono fun i hi => List.mem_append_left _ hi, h2⟩
          · subst hb
            rw [set_same hc] at h
            obtain ⟨e, s1, h1, f1, h2⟩ := ihb (p ++ [1]) _ _ _ _ _ (by rw [codeOf_append, hp]; rfl) h
            exact ⟨e, s1, .cond (t := false) hx hc h1, f1.mono fun i hi => List.mem_append_right _ hi, h2⟩
        · exact h.elim
      · simp only [evC_eq] at h
        split at h
        · rename_i c hc
          rcases cnd_or h with ⟨hb, h⟩ | ⟨hb, h⟩
          · subst hb
            obtain ⟨e, s1, h1, f1, h2⟩ := iha (p ++ [0]) _ _ _ _ _ (by rw [codeOf_append, hp]; rfl) h
            exact ⟨e, s1, .cond (t := true) hx hc h1, f1.mono fun i hi => List.mem_append_left _ hi, h2⟩
          · subst hb
            obtain ⟨e, s1, h1, f1, h2⟩ := ihb (p ++ [1]) _ _ _ _ _ (by rw [codeOf_append, hp]; rfl) h
            exact ⟨e, s1, .cond (t := false) hx hc h1, f1.mono fun i hi => List.mem_append_right _ hi, h2⟩
        · exact h.elim
  | block id c ih =>
    intro p t d M rc Q hp h
    simp only [wpC] at h
    obtain ⟨e, s1, h1, f1, h2⟩ := ih (p ++ [0]) _ _ _ _ _ (by rw [codeOf_append, hp]; rfl) h
    exact ⟨_, s1, .block h1, f1, h2⟩
  | loop c ih =>
    intro p t d M rc Q hp h
    simp only [wpC] at h
    split at h
    · have h := h t ⟨by rw [lenC_eq]; rfl, okT_pins t _⟩
      obtain ⟨e, h⟩ := anyE_ex h
      obtain ⟨o, h⟩ := shapeP_ex h
      obtain ⟨M', ⟨t', h1, h2, h3⟩, h4⟩ := h
      unfold Lp at h1
      rw [hp] at h1 h2
      have h4 := h4 fun i => t'.getD i undef
      rw [mixC_fr (W := wrC c) h2, patchP_ok h3] at h4
      exact ⟨_, _, h1, h2, h4⟩
    · have h := h t ⟨by rw [lenC_eq]; rfl, okT_pins t _⟩
      obtain ⟨e, h⟩ := anyE_ex h
      obtain ⟨o, h⟩ := shapeP_ex h
      obtain ⟨d', rc', M', ⟨t', h1, h2, h3⟩, h4⟩ := h
      unfold Lp at h1
      rw [hp] at h1 h2
      have h4 := h4 fun i => t'.getD i undef
      rw [mixC_fr (W := wrC c) h2, patchP_ok h3] at h4
      exact ⟨_, _, h1, h2, h4⟩
  | rangeFunc f ps a c iha ihc =>
    intro p t d M rc Q hp h
    simp only [wpC] at h
    obtain ⟨e, M', h1, h2⟩ := anyE_ex (h t ⟨by rw [lenC_eq]; rfl, okT_pins t _⟩)
    unfold Lp at h1
    rw [hp] at h1
    exact ⟨_, _, h1, .refl _ _, h2⟩
  | exit id => intro p t d M rc Q hp h; exact ⟨_, _, .exit, .refl _ _, h⟩
  | ret => intro p t d M rc Q hp h; exact ⟨_, _, .ret, .refl _ _, h⟩
  | region id ops draw =>
    intro p t d M rc Q hp h
    cases draw with
    | true =>
      simp only [wpC] at h
      obtain ⟨s', h1, f1, h2⟩ := wpDraw_ev h
      exact ⟨_, s', h1, f1, h2⟩
    | false =>
      simp only [wpC] at h
      obtain ⟨e, s', h1, f1, h2⟩ := wpOps_ev ops.toList 0 _ _ _ _ (fun m o hm => by simpa using hm) h
      refine ⟨e, s', .region ?_, f1, h2⟩
      have e : List.range ops.size = List.range' 0 ops.toList.length := by simp [List.range_eq_range']
      rw [e]; exact h1
  | _ => intro p t d M rc Q hp h; exact h.elim

/-- A piece of code, and what it comes to. -/
noncomputable def wpAt (P : Program) (E : Env) (sym : Bool) (ann : Ann) (p : List Nat) (s : St) (Q : AExit → St → Prop) : Prop := wpC P E sym ann (codeOf P E.f p) p s.t s.d s.M s.rc Q
theorem wpAt_lp {E : Env} {sym : Bool} {ann : Ann} {p : List Nat} {s : St} {Q : AExit → St → Prop} (h : wpAt P E sym ann p s Q) : ∃ e s', Lp P E p s e s' ∧ Q e s' := by
  obtain ⟨e, s', h1, _, h2⟩ := wpC_ev _ p _ _ _ _ Q rfl h
  exact ⟨e, s', h1, h2⟩
theorem wpAt_fr {E : Env} {sym : Bool} {ann : Ann} {p : List Nat} {s : St} {Q : AExit → St → Prop} (h : wpAt P E sym ann p s Q) : ∃ e s', Lp P E p s e s' ∧ FrW (wrC (codeOf P E.f p)) s.t s'.t ∧ Q e s' := wpC_ev _ p _ _ _ _ Q rfl h

/-- A loop, round by round: what holds at its head, with a number that falls. -/
theorem loop_lp {E : Env} {sym : Bool} {ann : Ann} {p : List Nat} {body : Code} (hb : codeOf P E.f p = .loop body) (Inv : Nat → St → Prop) (Q : AExit → St → Prop)
    (step : ∀ n s, Inv n s → wpAt P E sym ann (p ++ [0]) s fun e s' => match e with | .normal => ∃ m, m < n ∧ Inv m s' | e => Q e s') : ∀ n s, Inv n s → ∃ e s', Lp P E p s e s' ∧ Q e s' := by
  intro n
  induction n using Nat.strongRecOn with
  | ind n ih =>
    intro s hs
    obtain ⟨e, s', h1, h2⟩ := wpAt_lp (step n s hs)
    have hc : codeOf P E.f (p ++ [0]) = body := by rw [codeOf_append, hb]; rfl
    unfold Lp at h1
    rw [hc] at h1
    split at h2
    · obtain ⟨m, hm, h2⟩ := h2
      obtain ⟨e, s2, h3, h4⟩ := ih m hm _ h2
      unfold Lp at h3
      rw [hb] at h3
      refine ⟨e, s2, ?_, h4⟩
      unfold Lp
      rw [hb]
      exact .loopN h1 h3
    · rename_i hne
      refine ⟨_, s', ?_, h2⟩
      unfold Lp
      rw [hb]
      exact .loopX h1 (fun he => hne he)

theorem wp_frame {E : Env} {p : List Nat} {s s' : St} {e : AExit} (h : Lp P E p s e s') (hc : calmC (codeOf P E.f p) = true) : FrW (wrC (codeOf P E.f p)) s.t s'.t ∧ s'.d = s.d ∧ s'.rc = s.rc := ev_frame h hc
def sameX : AExit → AExit → Bool
  | .normal, .normal => true
  | .ret, .ret => true
  | .exit i, .exit j => Nat.beq i j
  | _, _ => false
/-- The ways out of a loop, the variables that are told there, and what is wished. -/
abbrev Outs := List (AExit × List Nat × (List Value → Mem → Prop))
noncomputable def outP : Outs → AExit → List Value → Mem → Prop
  | [], _, _, _ => False
  | (x, is, R) :: l, e, t, M => match sameX x e with | true => R (getsC is t) M | false => outP l e t M
noncomputable def loopQ (vs : List Nat) (Inv : Nat → List Value → Mem → Prop) (o : Outs) (n : Nat) (e : AExit) (s : St) : Prop := match e with
  | .normal => ∃ m, m < n ∧ Inv m (getsC vs s.t) s.M
  | e => outP o e s.t s.M
def outC (K : AExit → List (Nat × Value) → Mem → Prop) : Outs → Prop
  | [] => False
  | [(x, is, R)] => ∃ vs M', K x (is.zip vs) M' ∧ R vs M'
  | (x, is, R) :: l => (∃ vs M', K x (is.zip vs) M' ∧ R vs M') ∨ outC K l
theorem sameX_eq {x e : AExit} (h : sameX x e = true) : x = e := by
  cases x <;> cases e <;> simp [sameX] at h ⊢
  exact h
theorem outP_C {K : AExit → List (Nat × Value) → Mem → Prop} {e : AExit} {t : List Value} {M : Mem} (hK : ∀ o, okT o t → K e o M) : ∀ {o : Outs}, outP o e t M → outC K o
  | [], h => h.elim
  | [(x, is, R)], h => by
    simp only [outP] at h
    split at h
    · rename_i hx
      rw [sameX_eq hx]
      exact ⟨_, _, hK _ (okT_gets rfl), h⟩
    · exact h.elim
  | (x, is, R) :: y :: l, h => by
    unfold outP at h
    split at h
    · rename_i hx
      rw [sameX_eq hx]
      exact .inl ⟨_, _, hK _ (okT_gets rfl), h⟩
    · exact .inr (outP_C hK h)
theorem zip_fst {l : List Nat} {vs : List Value} {t : List Value} (h : okT (l.zip vs) t) (hl : vs.length = l.length) : getsC l t = vs := by
  induction l generalizing vs with
  | nil => cases vs with
    | nil => rfl
    | cons _ _ => simp at hl
  | cons i l ih =>
    cases vs with
    | nil => simp at hl
    | cons v vs =>
      simp only [List.zip_cons_cons, okT] at h
      simp only [getsC, nthC_eq, h.1]
      rw [ih h.2 (by simpa using hl)]
/-- A loop, without its frame: cs are told and stay, vs turn. -/
theorem loopT {E : Env} {sym : Bool} {ann : Ann} {p : List Nat} (body : Code) (hb : codeOf P E.f p = .loop body) (hc : calmC body = true) {d : List ADef} {rc : Bool} {N : Nat} (cs : List (Nat × Value)) (vs : List Nat)
    (hcs : freeC (maskL (wrC body)) cs = true) (Inv : Nat → List Value → Mem → Prop) (o : Outs)
    (step : ∀ (n : Nat) (xs : List Value) (M : Mem), Inv n xs M → ∀ u : Nat → Value, wpAt P E sym ann (p ++ [0]) ⟨patchP (vs.zip xs) (patchP cs (genC u N 0)), d, M, rc⟩ (loopQ vs Inv o n))
    {xs : List Value} {t0 : List Value} (hT : TIn N (cs ++ vs.zip xs) t0) (hl : xs.length = vs.length) {n : Nat} {M : Mem} (h0 : Inv n xs M) :
    outC (fun e o M' => LpT P E p t0 d M rc e o M') o := by
  have hN : TIn N cs t0 := ⟨hT.1, (okT_append.1 hT.2).1⟩
  have hv : getsC vs t0 = xs := zip_fst (okT_append.1 hT.2).2 hl
  have hcb : codeOf P E.f (p ++ [0]) = body := by rw [codeOf_append, hb]; rfl
  have key : ∀ (n : Nat) (t : List Value) (M1 : Mem), FrW (wrC body) t0 t → Inv n (getsC vs t) M1 → ∃ e t' M', Lp P E p ⟨t, d, M1, rc⟩ e ⟨t', d, M', rc⟩ ∧ FrW (wrC body) t0 t' ∧ outP o e t' M' := by
    intro n
    induction n using Nat.strongRecOn with
    | ind n ih =>
      intro t M1 hf hi
      have hlen : t.length = N := by rw [hf.1]; exact hN.1
      have hst := step n _ M1 hi fun i => t.getD i undef
      rw [← hlen, genC_self, patchP_ok (freeC_ok hf hcs hN.2), patchP_ok (okT_gets rfl)] at hst
      obtain ⟨e, s', h1, h2⟩ := wpAt_lp hst
      have h3 := wp_frame h1 (by rw [hcb]; exact hc)
      rw [hcb] at h3
      obtain ⟨h3, h4, h5⟩ := h3
      have es : s' = ⟨s'.t, d, s'.M, rc⟩ := by
        cases s'; simp at h4 h5; simp [h4, h5]
      rw [es] at h1
      unfold Lp at h1
      rw [hcb] at h1
      unfold loopQ at h2
      split at h2
      · obtain ⟨m, hm, h2⟩ := h2
        obtain ⟨e, t', M', g1, g2, g3⟩ := ih m hm s'.t s'.M (hf.trans h3) h2
        refine ⟨e, t', M', ?_, g2, g3⟩
        unfold Lp at g1 ⊢
        rw [hb] at g1 ⊢
        exact .loopN h1 g1
      · rename_i hne
        refine ⟨_, s'.t, s'.M, ?_, hf.trans h3, h2⟩
        unfold Lp
        rw [hb]
        exact .loopX h1 (fun he => hne he)
  obtain ⟨e, t', M', h1, h2, h3⟩ := key n t0 M (.refl _ _) (by rw [hv]; exact h0)
  exact outP_C (fun o' ho => ⟨t', h1, by rw [hb]; exact h2, ho⟩) h3

noncomputable def loopQX (vs : List Nat) (Inv : Nat → List Value → List ADef → Mem → Prop) (o : List (AExit × List Nat × (List Value → List ADef → Mem → Prop))) (n : Nat) (e : AExit) (s : St) : Prop := match e with
  | .normal => ∃ m, m < n ∧ Inv m (getsC vs s.t) s.d s.M
  | e => outP (o.map fun q => (q.1, q.2.1, fun vs M => q.2.2 vs s.d M)) e s.t s.M
/-- The same, where ranges over functions leave their marks. -/
theorem loopX {E : Env} {sym : Bool} {ann : Ann} {p : List Nat} (body : Code) (hb : codeOf P E.f p = .loop body) {N : Nat} (cs : List (Nat × Value)) (vs : List Nat)
    (hcs : freeC (maskL (wrC body)) cs = true) (Inv : Nat → List Value → List ADef → Mem → Prop) (o : List (AExit × List Nat × (List Value → List ADef → Mem → Prop)))
    (step : ∀ (n : Nat) (xs : List Value) (d : List ADef) (rc : Bool) (M : Mem), Inv n xs d M → ∀ u : Nat → Value, wpAt P E sym ann (p ++ [0]) ⟨patchP (vs.zip xs) (patchP cs (genC u N 0)), d, M, rc⟩ (loopQX vs Inv o n))
    {xs : List Value} {t0 : List Value} (hT : TIn N (cs ++ vs.zip xs) t0) (hl : xs.length = vs.length) {n : Nat} {d : List ADef} {rc : Bool} {M : Mem} (h0 : Inv n xs d M) :
    ∃ d' rc', outC (fun e2 o2 M2 => LpX P E p t0 d M rc e2 o2 d' rc' M2) (o.map fun q => (q.1, q.2.1, fun vs M => q.2.2 vs d' M)) := by
  have hN : TIn N cs t0 := ⟨hT.1, (okT_append.1 hT.2).1⟩
  have hv : getsC vs t0 = xs := zip_fst (okT_append.1 hT.2).2 hl
  have hcb : codeOf P E.f (p ++ [0]) = body := by rw [codeOf_append, hb]; rfl
  have key : ∀ (n : Nat) (t : List Value) (d : List ADef) (rc : Bool) (M1 : Mem), FrW (wrC body) t0 t → Inv n (getsC vs t) d M1 → ∃ e t' d' rc' M', Lp P E p ⟨t, d, M1, rc⟩ e ⟨t', d', M', rc'⟩ ∧ FrW (wrC body) t0 t' ∧ outP (o.map fun q => (q.1, q.2.1, fun vs M => q.2.2 vs d' M)) e t' M' := by
    intro n
    induction n using Nat.strongRecOn with
    | ind n ih =>
      intro t d rc M1 hf hi
      have hlen : t.length = N := by rw [hf.1]; exact hN.1
      have hst := step n _ d rc M1 hi fun i => t.getD i undef
      rw [← hlen, genC_self, patchP_ok (freeC_ok hf hcs hN.2), patchP_ok (okT_gets rfl)] at hst
      obtain ⟨e, s', h1, h3, h2⟩ := wpAt_fr hst
      rw [hcb] at h3
      unfold Lp at h1
      rw [hcb] at h1
      unfold loopQX at h2
      split at h2
      · obtain ⟨m, hm, h2⟩ := h2
        obtain ⟨e, t', d', rc', M', g1, g2, g3⟩ := ih m hm s'.t s'.d s'.rc s'.M (hf.trans h3) h2
        refine ⟨e, t', d', rc', M', ?_, g2, g3⟩
        unfold Lp at g1 ⊢
        rw [hb] at g1 ⊢
        exact .loopN h1 g1
      · rename_i hne
        refine ⟨_, s'.t, s'.d, s'.rc, s'.M, ?_, hf.trans h3, h2⟩
        unfold Lp
        rw [hb]
        exact .loopX h1 (fun he => hne he)
  obtain ⟨e, t', d', rc', M', h1, h2, h3⟩ := key n t0 d rc M (.refl _ _) (by rw [hv]; exact h0)
  exact ⟨d', rc', outP_C (fun o' ho => ⟨t', h1, by rw [hb]; exact h2, ho⟩) h3⟩

/-! ### Calls -/
noncomputable def resK (P : Program) (t : List Value) (M : Mem) : List ResultVar → (List Value → Prop) → Prop
  | [], k => k []
  | .tmp i :: l, k => resK P t M l fun vs => k ((nthC i).get t :: vs)
  | .cell i ty :: l, k => match (nthC i).get t with
    | .pointer (some ⟨x, o, none⟩) => shapeT P ty fun v => rdVar P M ty x o = some v ∧ resK P t M l fun vs => k (v :: vs)
    | _ => False
theorem resK_ex {t : List Value} {M : Mem} : ∀ {l : List ResultVar} {k : List Value → Prop}, resK P t M l k → ∃ vs, l.mapM (resultA P t M) = some vs ∧ k vs
  | [], k, h => ⟨[], rfl, h⟩
  | .tmp i :: l, k, h => by
    simp only [resK, nthC_eq] at h
    obtain ⟨vs, h1, h2⟩ := resK_ex h
    exact ⟨_, by simp [List.mapM_cons, h1, resultA], h2⟩
  | .cell i ty :: l, k, h => by
    simp only [resK, nthC_eq] at h
    split at h
    · rename_i x o ha
      obtain ⟨v, h1, h2⟩ := shapeT_ex h
      obtain ⟨vs, h3, h4⟩ := resK_ex h2
      refine ⟨v :: vs, ?_, h4⟩
      simp only [List.mapM_cons, resultA]
      rw [ha]
      simp [h1, h3]
    · exact h.elim
/-- Behind the body: what was put off, and the answer. -/
noncomputable def endK (P : Program) (rs : List ResultVar) (t : List Value) : List ADef → Mem → (Value → Mem → Prop) → Prop
  | [], M, K => resK P t M rs fun vs => match vs with | [v] => K v M | vs => K (.tuple ⟨vs⟩) M
  | .mark r :: ds, M, K => M[r]? = some (.defers false) ∧ endK P rs t ds (M.set r (.defers true)) K
  | .call g args cap :: ds, M, K => match walksIn P g with
    | true => ∃ v M', (∃ rc, Ev P (Ret P) (.call (.deferred none) g (args ++ cap) M) (.call (.ret v) M' rc)) ∧ endK P rs t ds M' K
    | false => False

/-- Is there a loop that leaves marks? -/
def hasLX : Code → Bool
  | .seq a b => match hasLX a with | true => true | false => hasLX b
  | .cond _ a b => match hasLX a with | true => true | false => hasLX b
  | .block _ c => hasLX c
  | .loop c => !(calmC c)
  | _ => false
/-- The marks are taken away. -/
def UnwM : List ADef → Mem → Mem → Prop
  | [], M, M2 => M2 = M
  | .mark r :: ds, M, M2 => M[r]? = some (.defers false) ∧ UnwM ds (M.set r (.defers true)) M2
  | _ :: _, _, _ => False
noncomputable def endU (P : Program) (rs : List ResultVar) (K : Value → Mem → Prop) (s : St) : Bool → Prop
  | true => ∃ M2, UnwM s.d s.M M2 ∧ endK P rs s.t [] M2 K
  | false => endK P rs s.t s.d s.M K
noncomputable def wpRet (P : Program) (f : FuncId) (sym : Bool) (ann : Ann) (args : List Value) (M : Mem) (K : Value → Mem → Prop) : Prop :=
  match P.funcs[f]? with
  | some fn => match fn.body with
    | some c => wpC P (.fn f) sym ann c [] (args ++ List.replicate (fn.ntmps - args.length) undef) [] M false fun e s => match e with
      | .normal => endU P fn.results.toList K s (hasLX c)
      | .ret => endU P fn.results.toList K s (hasLX c)
      | _ => False
    | none => False
  | none => False

theorem endK_ev {f : FuncId} {fn : Func} (hf : P.funcs[f]? = some fn) {t : List Value} {rc : Bool} {K : Value → Mem → Prop} : ∀ {d : List ADef} {M : Mem}, endK P fn.results.toList t d M K →
    ∃ v M', Ev P (Ret P) (.unwind f .normal .returning ⟨t, d, M, rc⟩) (.call (.ret v) M' rc) ∧ K v M'
  | [], M, h => by
    simp only [endK] at h
    obtain ⟨vs, h1, h2⟩ := resK_ex h
    split at h2
    · rename_i v
      exact ⟨v, M, .unwRet hf rfl (by simp only [resultsA, h1]; rfl), h2⟩
    · rename_i hne
      refine ⟨_, M, .unwRet (s := ⟨t, [], M, rc⟩) hf rfl ?_, h2⟩
      simp only [resultsA, h1, Option.map_some]
  | .mark r :: ds, M, h => by
    simp only [endK] at h
    obtain ⟨v, M', h1, h2⟩ := endK_ev hf (rc := rc) h.2
    exact ⟨v, M', .unwMark (s := ⟨t, .mark r :: ds, M, rc⟩) rfl h.1 h1, h2⟩
  | .call g args cap :: ds, M, h => by
    simp only [endK] at h
    split at h
    · rename_i hw
      obtain ⟨v, M', ⟨rc', h1⟩, h2⟩ := h
      obtain ⟨v2, M2, h3, h4⟩ := endK_ev hf (rc := rc) h2
      exact ⟨v2, M2, .unwCall (s := ⟨t, .call g args cap :: ds, M, rc⟩) rfl hw h1 h3, h4⟩
    · exact h.elim

theorem endM_ev {f : FuncId} {fn : Func} (hf : P.funcs[f]? = some fn) {t : List Value} {rc : Bool} {K : Value → Mem → Prop} {M2 : Mem} (h2 : endK P fn.results.toList t [] M2 K) : ∀ {d : List ADef} {M : Mem}, UnwM d M M2 →
    ∃ v M', Ev P (Ret P) (.unwind f .normal .returning ⟨t, d, M, rc⟩) (.call (.ret v) M' rc) ∧ K v M'
  | [], M, h => by
    have h : M2 = M := h
    subst h
    exact endK_ev hf h2
  | .mark r :: ds, M, h => by
    obtain ⟨v, M', h3, h4⟩ := endM_ev hf (rc := rc) h2 h.2
    exact ⟨v, M', .unwMark (s := ⟨t, .mark r :: ds, M, rc⟩) rfl h.1 h3, h4⟩
  | .call _ _ _ :: ds, M, h => h.elim
theorem endU_ev {f : FuncId} {fn : Func} (hf : P.funcs[f]? = some fn) {s : St} {K : Value → Mem → Prop} {b : Bool} (h : endU P fn.results.toList K s b) :
    ∃ v M', Ev P (Ret P) (.unwind f .normal .returning s) (.call (.ret v) M' s.rc) ∧ K v M' := by
  obtain ⟨t, d, M, rc⟩ := s
  cases b with
  | true =>
    obtain ⟨M2, h1, h2⟩ := h
    exact endM_ev hf h2 h1
  | false => exact endK_ev hf h
/-- What a function answers. -/
theorem Ret.wp (hP : P.follows .mixedOrders = true) {f : FuncId} {sym : Bool} {ann : Ann} {args : List Value} {M : Mem} {K : Value → Mem → Prop} (h : wpRet P f sym ann args M K) : ∃ v M', Ret P f args M v M' ∧ K v M' := by
  unfold wpRet at h
  split at h
  · rename_i fn hf
    split at h
    · rename_i c hc
      obtain ⟨e, s', h1, _, h2⟩ := wpC_ev c [] _ _ _ _ _ (by simp [codeOf, Env.fn, hf, hc, codeAt]) h
      have fin : (e = .normal ∨ e = .ret) → endU P fn.results.toList K s' (hasLX c) → ∃ v M', Ret P f args M v M' ∧ K v M' := by
        intro he h2
        obtain ⟨v, M', h3, h4⟩ := endU_ev hf h2
        exact ⟨v, M', .of_ev hP (.callBody hf hc h1 he h3), h4⟩
      split at h2
      · exact fin (.inl rfl) h2
      · exact fin (.inr rfl) h2
      · exact h2.elim
    · exact h.elim
  · exact h.elim
/-- The same, where the answer is known. -/
theorem Ret.wpTo (hP : P.follows .mixedOrders = true) {f : FuncId} {sym : Bool} {ann : Ann} {args : List Value} {M M' : Mem} {v : Value} (h : wpRet P f sym ann args M fun v2 M2 => v2 = v ∧ M2 = M') : Ret P f args M v M' := by
  obtain ⟨v2, M2, h1, rfl, rfl⟩ := Ret.wp hP h
  exact h1

end Go.Proofs.YtabkcbaknjenmaaAM

/-
  AN ABSTRACT MACHINE OVER THE MODEL, part 32: a call's spec over a small memory holds over any memory that has these objects; of the new objects only those that are wanted are kept.
-/
set_option linter.unusedVariables false
set_option linter.unusedSimpArgs false
namespace Go.Proofs.YtabkcbaknjenmaaAM
open Go
variable {P : Program}

/-- σ: where the small memory's objects lie in the large one; σ': the same behind the call, with the new ones that are kept; τ: back from those. -/
structure Trim (σ σ' τ : Nat → Option Nat) (M0 M0' M M1 : Mem) : Prop where
  all : ∀ x, x < M0.length → ∃ y, σ x = some y
  dom : ∀ x y, σ x = some y → x < M0.length ∧ y < M.length
  inj : ∀ x x' y, σ x = some y → σ x' = some y → x = x'
  obj : ∀ x y, σ x = some y → ∃ o o1, M0[x]? = some o ∧ M[y]? = some o1 ∧ RenO σ o o1
  old : ∀ x, x < M0.length → σ' x = σ x
  fresh : ∀ x y, M0.length ≤ x → σ' x = some y → M.length ≤ y ∧ y < M1.length ∧ x < M0'.length ∧ τ y = some x
  back : ∀ y, M.length ≤ y → y < M1.length → ∃ x, τ y = some x ∧ M0.length ≤ x ∧ x < M0'.length ∧ σ' x = some y
  out : ∀ y, M1.length ≤ y → τ y = none
  len : M.length ≤ M1.length
  obj' : ∀ x y, σ' x = some y → ∃ o o1, M0'[x]? = some o ∧ M1[y]? = some o1 ∧ RenO σ' o o1
  keep : ∀ y, y < M.length → (∀ x, σ x ≠ some y) → M1[y]? = M[y]?

theorem Trim.ext {σ σ' τ : Nat → Option Nat} {M0 M0' M M1 : Mem} (L : Trim σ σ' τ M0 M0' M M1) {ρ : Rho} {w : World} (hR : Rel ρ M w) :
    Rel (fun x => (σ x).bind ρ) M0 w ∧ ∀ {ρ1 : Rho} {w1 : World}, Ext (fun x => (σ x).bind ρ) M0 w ρ1 M0' w1 →
      ∃ ρ', Ext ρ M w ρ' M1 w1 ∧ ∀ x y p, σ' x = some y → ρ1 x = some p → ρ' y = some p := by
  have hσ : ∀ x y, σ x = some y → (fun x => (σ x).bind ρ) x = ρ y := fun x y e => by simp [e]
  have inv : ∀ x p, (σ x).bind ρ = some p → ∃ y, σ x = some y ∧ ρ y = some p := by
    intro x p e
    cases hx : σ x with
    | none => simp [hx] at e
    | some y => exact ⟨y, rfl, by simpa [hx] using e⟩
  constructor
  · refine ⟨?_, ?_, ?_⟩
    · intro x p e
      obtain ⟨y, hy, hp⟩ := inv x p e
      obtain ⟨o, o1, h1, h2, h3⟩ := L.obj x y hy
      obtain ⟨o1', h4, h5⟩ := hR.obj y p hp
      rw [h2] at h4; injection h4 with h4; subst h4
      exact ⟨o, h1, h3.down hσ h5⟩
    · intro x p e
      obtain ⟨y, hy, hp⟩ := inv x p e
      exact hR.blk y p hp
    · intro x x' p q o o' ex ex' hne ho ho' hw ha
      obtain ⟨y, hy, hp⟩ := inv x p ex
      obtain ⟨y', hy', hp'⟩ := inv x' q ex'
      obtain ⟨a, a1, h1, h2, h3⟩ := L.obj x y hy
      obtain ⟨b, b1, k1, k2, k3⟩ := L.obj x' y' hy'
      rw [h1] at ho; injection ho with ho; subst ho
      rw [k1] at ho'; injection ho' with ho'; subst ho'
      exact hR.sep y y' p q a1 b1 hp hp' (fun h => hne (L.inj x x' y hy (by rw [h]; exact hy'))) h2 k2 (by rw [h3.modes.1]; exact hw) (by rw [k3.modes.2]; exact ha)
  · intro ρ1 w1 h
    let ρ' : Rho := fun y => if y < M.length then ρ y else (τ y).bind ρ1
    have up : ∀ x y p, σ' x = some y → ρ1 x = some p → ρ' y = some p := by
      intro x y p e hp
      rcases Nat.lt_or_ge x M0.length with hx | hx
      · rw [L.old x hx] at e
        have hy := (L.dom x y e).2
        rcases h.dom x p hp with ⟨q, hq⟩ | ⟨a, _⟩
        · have := h.le _ _ hq
          rw [hp] at this; injection this with this; subst this
          simp only [ρ', if_pos hy]
          rw [← hσ x y e]; exact hq
        · omega
      · obtain ⟨f1, f2, f3, f4⟩ := L.fresh x y hx e
        simp only [ρ']
        rw [if_neg (by omega), f4]
        exact hp
    refine ⟨ρ', ?_, up⟩
    have le : Rho.le ρ ρ' := fun y p e => by
      obtain ⟨o, ho, _⟩ := hR.obj y p e
      simp only [ρ', if_pos (List.getElem?_eq_some_iff.1 ho).1]; exact e
    have lenM := h.len
    have pre : ∀ y p, ρ' y = some p → (∃ x, σ' x = some y ∧ ρ1 x = some p) ∨ (y < M.length ∧ ρ y = some p ∧ ∀ x, σ x ≠ some y) := by
      intro y p e
      by_cases hy : y < M.length
      · simp only [ρ', if_pos hy] at e
        by_cases hx : ∃ x, σ x = some y
        · obtain ⟨x, hx⟩ := hx
          refine .inl ⟨x, by rw [L.old x (L.dom x y hx).1]; exact hx, h.le _ _ ?_⟩
          show (σ x).bind ρ = some p
          rw [hx]; exact e
        · exact .inr ⟨hy, e, fun x hx' => hx ⟨x, hx'⟩⟩
      · simp only [ρ', if_neg hy] at e
        rcases Nat.lt_or_ge y M1.length with hl | hl
        · obtain ⟨x, b1, b2, b3, b4⟩ := L.back y (by omega) hl
          rw [b1] at e
          exact .inl ⟨x, b4, e⟩
        · rw [L.out y hl] at e; simp at e
    -- what may be written in the small may be written in the large
    have wbU : ∀ k, Wb (fun x => (σ x).bind ρ) M0 k → ∃ y p o, ρ y = some p ∧ M[y]? = some o ∧ o.writable = true ∧ p.block = k ∧ ∃ x, σ x = some y := by
      rintro k ⟨x, p, o, e, ho, hw, hb⟩
      obtain ⟨y, hy, hp⟩ := inv x p e
      obtain ⟨a, a1, h1, h2, h3⟩ := L.obj x y hy
      rw [h1] at ho; injection ho with ho; subst ho
      exact ⟨y, p, a1, hp, h2, by rw [h3.modes.1]; exact hw, hb, x, hy⟩
    have apart : ∀ y q o, ρ y = some q → (∀ x, σ x ≠ some y) → M[y]? = some o → o.alive = true → ∀ k, Wb ρ1 M0' k → q.block ≠ k := by
      intro y q o e hn ho ha k hk
      have hq := hR.blk y q e
      by_cases hks : k < w.heap.size
      · obtain ⟨y', p', o', e', ho', hw', hb', x', hx'⟩ := wbU k (h.wb k hk hks)
        have := hR.sep y' y p' q o' o e' e (fun hh => hn x' (by rw [← hh]; exact hx')) ho' ho hw' ha
        rw [hb'] at this
        exact fun hh => this hh.symm
      · omega
    have rel' : Rel ρ' M1 w1 := by
      refine ⟨?_, ?_, ?_⟩
      · intro y p e
        rcases pre y p e with ⟨x, hx, hp⟩ | ⟨hy, hp, hn⟩
        · obtain ⟨o, o1, h1, h2, h3⟩ := L.obj' x y hx
          obtain ⟨o', h4, h5⟩ := h.rel.obj x p hp
          rw [h1] at h4; injection h4 with h4; subst h4
          exact ⟨o1, h2, h3.up up h5⟩
        · obtain ⟨o, ho, hr⟩ := hR.obj y p hp
          refine ⟨o, by rw [L.keep y hy hn]; exact ho, ?_⟩
          by_cases ha : o.alive = true
          · refine (hr.mono le).of_block (h.kept _ (hR.blk y p hp) fun hw => ?_)
            obtain ⟨y', p', o', e', ho', hw', hb', x', hx'⟩ := wbU _ hw
            exact hR.sep y' y p' p o' o e' hp (fun hh => hn x' (by rw [← hh]; exact hx')) ho' ho hw' ha hb'
          · cases o with
            | cells vs u m => cases m <;> simp [AObj.alive] at ha; exact .inl rfl
            | _ => simp [AObj.alive] at ha
      · intro y p e
        rcases pre y p e with ⟨x, hx, hp⟩ | ⟨hy, hp, hn⟩
        · exact h.rel.blk x p hp
        · have := hR.blk y p hp; have := h.size; omega
      · intro y z p q o o' ey ez hne ho ho' hw ha
        rcases pre y p ey with ⟨x, hx, hp⟩ | ⟨hy, hp, hn⟩ <;> rcases pre z q ez with ⟨x', hx', hp'⟩ | ⟨hy', hp', hn'⟩
        · obtain ⟨a, a1, h1, h2, h3⟩ := L.obj' x y hx
          obtain ⟨b, b1, k1, k2, k3⟩ := L.obj' x' z hx'
          rw [h2] at ho; injection ho with ho; subst ho
          rw [k2] at ho'; injection ho' with ho'; subst ho'
          exact h.rel.sep x x' p q a b hp hp' (fun hh => by subst hh; rw [hx] at hx'; injection hx' with hx'; exact hne hx') h1 k1 (by rw [← h3.modes.1]; exact hw) (by rw [← k3.modes.2]; exact ha)
        · obtain ⟨a, a1, h1, h2, h3⟩ := L.obj' x y hx
          rw [h2] at ho; injection ho with ho; subst ho
          rw [L.keep z hy' hn'] at ho'
          exact fun hh => apart z q o' hp' hn' ho' ha p.block ⟨x, p, a, hp, h1, by rw [← h3.modes.1]; exact hw, rfl⟩ hh.symm
        · obtain ⟨b, b1, k1, k2, k3⟩ := L.obj' x' z hx'
          rw [k2] at ho'; injection ho' with ho'; subst ho'
          rw [L.keep y hy hn] at ho
          have hao : o.alive = true := by cases o with
            | cells vs u m => cases m <;> simp_all [AObj.writable, AObj.alive]
            | _ => rfl
          have hb : b.alive = true := by rw [← k3.modes.2]; exact ha
          rcases h.dom x' q hp' with ⟨q2, hq2⟩ | ⟨c1, c2⟩
          · obtain ⟨o2, ho2, ha2, _⟩ := h.alive x' b ⟨q2, hq2⟩ k1 hb
            have := h.le _ _ hq2
            rw [hp'] at this; injection this with this; subst this
            obtain ⟨z', hz', hpz⟩ := inv x' q hq2
            obtain ⟨c, c1, d1, d2, d3⟩ := L.obj x' z' hz'
            rw [d1] at ho2; injection ho2 with ho2; subst ho2
            exact hR.sep y z' p q o c1 hp hpz (fun hh => hn x' (by rw [hh]; exact hz')) ho d2 hw (by rw [d3.modes.2]; exact ha2)
          · exact apart y p o hp hn ho hao q.block ⟨x', q, b, hp', k1, h.neww x' b c1 k1 hb, rfl⟩
        · rw [L.keep y hy hn] at ho
          rw [L.keep z hy' hn'] at ho'
          exact hR.sep y z p q o o' hp hp' hne ho ho' hw ha
    refine ⟨rel', le, ?_, ?_, L.len, h.os, h.tape, h.output, h.size, ?_, ?_, ?_, ?_, h.frz⟩
    · intro y p e
      rcases pre y p e with ⟨x, hx, hp⟩ | ⟨hy, hp, hn⟩
      · rcases Nat.lt_or_ge x M0.length with hl | hl
        · rw [L.old x hl] at hx
          rcases h.dom x p hp with ⟨q, hq⟩ | ⟨a, _⟩
          · obtain ⟨y', hy', hp'⟩ := inv x q hq
            rw [hx] at hy'; injection hy' with hy'; subst hy'
            exact .inl ⟨q, hp'⟩
          · omega
        · obtain ⟨f1, f2, _⟩ := L.fresh x y hl hx
          exact .inr ⟨f1, f2⟩
      · exact .inl ⟨p, hp⟩
    · intro y h1 h2
      obtain ⟨x, b1, b2, b3, b4⟩ := L.back y h1 h2
      obtain ⟨p, hp⟩ := h.new x b2 b3
      exact ⟨p, by simp only [ρ']; rw [if_neg (by omega), b1]; exact hp⟩
    · intro k hk hn
      refine h.kept k hk fun hw => hn ?_
      obtain ⟨y', p', o', e', ho', hw', hb', _⟩ := wbU k hw
      exact ⟨y', p', o', e', ho', hw', hb'⟩
    · rintro k ⟨y, p, o, e, ho, hw, hb⟩ hk
      rcases pre y p e with ⟨x, hx, hp⟩ | ⟨hy, hp, hn⟩
      · obtain ⟨a, a1, h1, h2, h3⟩ := L.obj' x y hx
        rw [h2] at ho; injection ho with ho; subst ho
        obtain ⟨y', p', o', e', ho', hw', hb', _⟩ := wbU k (h.wb k ⟨x, p, a, hp, h1, by rw [← h3.modes.1]; exact hw, hb⟩ hk)
        exact ⟨y', p', o', e', ho', hw', hb'⟩
      · rw [L.keep y hy hn] at ho
        exact ⟨y, p, o, hp, ho, hw, hb⟩
    · intro y o' hp ho' ha
      obtain ⟨p, hp⟩ := hp
      obtain ⟨o, ho, _⟩ := hR.obj y p hp
      have hy := (List.getElem?_eq_some_iff.1 ho).1
      by_cases hx : ∃ x, σ x = some y
      · obtain ⟨x, hx⟩ := hx
        have hxl := (L.dom x y hx).1
        obtain ⟨a, a1, h1, h2, h3⟩ := L.obj' x y (by rw [L.old x hxl]; exact hx)
        rw [h2] at ho'; injection ho' with ho'; subst ho'
        obtain ⟨o2, ho2, ha2, hw2⟩ := h.alive x a ⟨p, by show (σ x).bind ρ = some p; rw [hx]; exact hp⟩ h1 (by rw [← h3.modes.2]; exact ha)
        obtain ⟨b, b1, k1, k2, k3⟩ := L.obj x y hx
        rw [k1] at ho2; injection ho2 with ho2; subst ho2
        exact ⟨b1, k2, by rw [k3.modes.2]; exact ha2, fun hw => by rw [h3.modes.1]; exact hw2 (by rw [← k3.modes.1]; exact hw)⟩
      · rw [L.keep y hy (fun x hx' => hx ⟨x, hx'⟩)] at ho'
        exact ⟨o', ho', ha, id⟩
    · intro y o' hy ho' ha
      have hyl := (List.getElem?_eq_some_iff.1 ho').1
      obtain ⟨x, b1, b2, b3, b4⟩ := L.back y hy hyl
      obtain ⟨a, a1, h1, h2, h3⟩ := L.obj' x y b4
      rw [h2] at ho'; injection ho' with ho'; subst ho'
      rw [h3.modes.1]
      exact h.neww _ a b2 h1 (by rw [← h3.modes.2]; exact ha)

theorem SCall.trim {f : FuncId} {args args1 : List Value} {v v1 : Value} {σ σ' τ : Nat → Option Nat} {M0 M0' M M1 : Mem} (h : SCall P .normal f args M0 (.ret v) M0' false) (L : Trim σ σ' τ M0 M0' M M1) (ha : RenL σ args args1) (hv : RenV σ' v v1) :
    SCall P .normal f args1 M (.ret v1) M1 false := by
  intro ρ w argsC Cs hR hargs hCs
  obtain ⟨hR0, hE⟩ := L.ext hR
  obtain ⟨ρ1, w1, fr, h1, h2, h3, h4, h5, h6, h7, fn, v', h8, h9, h10⟩ := h _ w argsC Cs hR0 (ha.down (fun x y e => by simp [e]) hargs) hCs
  obtain ⟨ρ', k1, k2⟩ := hE h1
  exact ⟨ρ', w1, fr, k1, h2, h3, h4, h5, h6, h7, fn, v', h8, h9, hv.up k2 h10⟩

end Go.Proofs.YtabkcbaknjenmaaAM

/-
  AN ABSTRACT MACHINE OVER THE MODEL, part 33: what a call has left behind may be forgotten, where nothing that was there has turned.
-/
set_option linter.unusedVariables false
set_option linter.unusedSimpArgs false
namespace Go.Proofs.YtabkcbaknjenmaaAM
open Go
variable {P : Program}

theorem VRel.narrow {ρ ρ1 : Rho} (hle : Rho.le ρ ρ1) {v a : Value} (h : VRel ρ v a) : ∀ {b : Value}, VRel ρ1 v b → VRel ρ v b := by
  have same : ∀ {x p q}, ρ x = some p → ρ1 x = some q → q = p := fun h1 h2 => by
    have := hle _ _ h1; rw [h2] at this; injection this
  induction h with
  | bool b => intro v' r; cases r; exact .bool b
  | int k n => intro v' r; cases r; exact .int k n
  | string s => intro v' r; cases r; exact .string s
  | ptrN => intro v' r; cases r; exact .ptrN
  | ptr e => intro v' r; cases r with | ptr e2 => rw [same e e2]; exact .ptr e
  | sliN => intro v' r; cases r; exact .sliN
  | sli e hs => intro v' r; cases r with | sli e2 hs2 => rw [same e e2] at hs2 ⊢; exact .sli e hs2
  | mapN => intro v' r; cases r; exact .mapN
  | map e => intro v' r; cases r with | map e2 => rw [same e e2]; exact .map e
  | fn f a a1 b b1 ha hb _ _ iA iB =>
    intro v' r
    cases r with
    | fn _ _ a' _ b' ha' hb' hA' hB' =>
      refine .fn f a a' b b' ha' hb' (fun i x x' hx hx' => ?_) (fun i x x' hx hx' => ?_)
      · have hi : i < a1.size := by rw [← ha]; exact (Array.getElem?_eq_some_iff.1 hx).1
        exact iA i x a1[i] hx (by simp [hi]) (hA' i x x' hx hx')
      · have hi : i < b1.size := by rw [← hb]; exact (Array.getElem?_eq_some_iff.1 hx).1
        exact iB i x b1[i] hx (by simp [hi]) (hB' i x x' hx hx')
  | yield e => intro v' r; cases r with | yield e2 => rw [same e e2]; exact .yield e
  | nilFunc => intro v' r; cases r; exact .nilFunc
  | nilIface => intro v' r; cases r; exact .nilIface
  | iface t _ ih => intro v' r; cases r with | iface _ r2 => exact .iface t (ih r2)
  | agg a a1 ha _ iA =>
    intro v' r
    cases r with
    | agg _ a' ha' hA' =>
      refine .agg a a' ha' (fun i x x' hx hx' => ?_)
      have hi : i < a1.size := by rw [← ha]; exact (Array.getElem?_eq_some_iff.1 hx).1
      exact iA i x a1[i] hx (by simp [hi]) (hA' i x x' hx hx')
  | tuple a a1 ha _ iA =>
    intro v' r
    cases r with
    | tuple _ a' ha' hA' =>
      refine .tuple a a' ha' (fun i x x' hx hx' => ?_)
      have hi : i < a1.size := by rw [← ha]; exact (Array.getElem?_eq_some_iff.1 hx).1
      exact iA i x a1[i] hx (by simp [hi]) (hA' i x x' hx hx')

theorem ORel.narrow {ρ ρ1 : Rho} (hle : Rho.le ρ ρ1) {o : AObj} {p : Place} {w w' : World} (h : ORel ρ o p w) (k : ORel ρ1 o p w') : ORel ρ o p w' := by
  cases o with
  | cells vs u m =>
    rcases k with k | ⟨cs, el, fr, a, hu, b, c, d, f⟩
    · exact .inl k
    · rcases h with h | ⟨cs0, el0, fr0, a0, hu0, b0, c0, d0, f0⟩
      · exact .inl h
      · refine .inr ⟨cs, el, fr, a, hu, b, c, fun i v hv => ?_, f⟩
        obtain ⟨v', x, y⟩ := d i v hv
        obtain ⟨v0, x0, y0⟩ := d0 i v hv
        exact ⟨v', x, y0.narrow hle y⟩
  | map es =>
    obtain ⟨es', clock, a, b, c⟩ := k
    obtain ⟨es0, clock0, a0, b0, c0⟩ := h
    refine ⟨es', clock, a, b, fun i e e' x y => ?_⟩
    obtain ⟨q, s, t⟩ := c i e e' x y
    have hi : i < es0.size := by rw [← b0]; exact (List.getElem?_eq_some_iff.1 x).1
    obtain ⟨_, _, t0⟩ := c0 i e es0[i] x (by simp [hi])
    exact ⟨q, s, t0.narrow hle t⟩
  | loop st pending fn tmps params assign body df =>
    obtain ⟨tmps', q, a, b, pd, c, d⟩ := k
    obtain ⟨tmps0, q0, a0, b0, pd0, c0, d0⟩ := h
    have hp : pd = pd0 := by have := hle _ _ c0; rw [c] at this; injection this
    refine ⟨tmps', q, a, ⟨b.len, fun i v v' hv hv' => ?_⟩, pd0, c0, by rw [← hp]; exact d⟩
    have hi : i < tmps0.toList.length := by rw [← b0.len]; exact (List.getElem?_eq_some_iff.1 hv).1
    exact (b0.at_ i v tmps0.toList[i] hv (by simp [hi])).narrow hle (b.at_ i v v' hv hv')
  | defers t => exact k
  | siter s pos => exact k

/-- What a call has left behind may be forgotten. -/
theorem SCall.drop {f : FuncId} {args : List Value} {v : Value} {M G : Mem} (h : SCall P .normal f args M (.ret v) (M ++ G) false) (hv : plain1 v = true) : SCall P .normal f args M (.ret v) M false := by
  intro ρ w argsC Cs hR hargs hCs
  obtain ⟨ρ1, w1, fr, h1, h2, h3, h4, h5, h6, h7, fn, v', h8, h9, h10⟩ := h ρ w argsC Cs hR hargs hCs
  have old : ∀ x p, ρ x = some p → ρ1 x = some p := h1.le
  have hE : Ext ρ M w ρ M w1 := by
    refine ⟨⟨?_, ?_, hR.sep⟩, Rho.le_refl ρ, fun x p e => .inl ⟨p, e⟩, fun x a b => by omega, Nat.le_refl _, h1.os, h1.tape, h1.output, h1.size, h1.kept, fun k hk _ => hk, fun x o' _ e a => ⟨o', e, a, id⟩, fun x o' hx e _ => by rw [List.getElem?_eq_none hx] at e; simp at e, h1.frz⟩
    · intro x p e
      obtain ⟨o, ho, hr⟩ := hR.obj x p e
      obtain ⟨o1, ho1, hr1⟩ := h1.rel.obj x p (old x p e)
      rw [List.getElem?_append_left (List.getElem?_eq_some_iff.1 ho).1, ho] at ho1
      injection ho1 with ho1; subst ho1
      exact ⟨o, ho, hr.narrow h1.le hr1⟩
    · intro x p e
      exact h1.rel.blk x p (old x p e)
  refine ⟨ρ, w1, fr, hE, h2, h3, h4, h5, h6, h7, fn, v', h8, h9, ?_⟩
  have := plain1_eq hv h10
  subst this
  exact plain1_refl ρ hv
theorem Ret.drop {f : FuncId} {args : List Value} {v : Value} {M G : Mem} (h : Ret P f args M v (M ++ G)) (hv : plain1 v = true) : Ret P f args M v M := SCall.drop h hv

end Go.Proofs.YtabkcbaknjenmaaAM

/-
  AN ABSTRACT MACHINE OVER THE MODEL, part 34: a wish, wrapped, so that nobody lays it open but the kernel.
-/
set_option linter.unusedVariables false
namespace Go.Proofs.YtabkcbaknjenmaaAM
open Go
structure Held (p : Prop) : Prop where
  ok : p
theorem held_of {p q : Prop} (e : p = q) (h : p) : Held q := ⟨e ▸ h⟩
theorem Ret.wpH {P : Program} (hP : P.follows .mixedOrders = true) {f : FuncId} {sym : Bool} {ann : Ann} {args : List Value} {M : Mem} {K : Value → Mem → Prop} (h : Held (wpRet P f sym ann args M K)) : ∃ v M', Ret P f args M v M' ∧ K v M' := by
  obtain ⟨h⟩ := h
  exact Ret.wp hP h
theorem Ret.wpToH {P : Program} (hP : P.follows .mixedOrders = true) {f : FuncId} {sym : Bool} {ann : Ann} {args : List Value} {M M' : Mem} {v : Value} (h : Held (wpRet P f sym ann args M fun v2 M2 => v2 = v ∧ M2 = M')) : Ret P f args M v M' := by
  obtain ⟨h⟩ := h
  exact Ret.wpTo hP h
end Go.Proofs.YtabkcbaknjenmaaAM

/-
  AN ABSTRACT MACHINE OVER THE MODEL, part 35: ranges over functions.
-/
set_option linter.unusedVariables false
set_option linter.unusedSimpArgs false
namespace Go.Proofs.YtabkcbaknjenmaaAM
open Go
variable {P : Program}

/-- One round of a range over a function: its parameters are set, then its body runs. -/
noncomputable def wpRound (P : Program) (f : FuncId) (L : Nat) (sym : Bool) (ann : Ann) (p : List Nat) (t : List Value) (ps : Array Tmp) (args : List Value) (M Mb : Mem) (K : Bool → Mem → Prop) : Prop :=
  wpAt P (.rf f L) sym ann (p ++ [0]) ⟨setParams t ps args, [], M, false⟩ fun e s1 => match e with
    | .normal => s1.M = M ∧ wpAt P (.rf f L) sym ann (p ++ [1]) ⟨s1.t, s1.d, Mb, s1.rc⟩ fun e s2 => match e with
      | .normal => K true s2.M
      | .ret => K false s2.M
      | _ => False
    | _ => False
/-- What a range over a function keeps in the memory. -/
def rfO (P : Program) (st : Go.LoopState) (j : Option Code) (f : FuncId) (p : List Nat) (t : List Value) (ps : Array Tmp) (df : Nat) : AObj := .loop st j f t ps (codeOf P f (p ++ [0])) (codeOf P f (p ++ [1])) df
def rfEnd (b : Bool) : Go.LoopState := match b with | true => .ready | false => .done
def rfJ (b : Bool) : Option Code := match b with | true => none | false => some .ret
theorem round_rd {f : FuncId} {sym : Bool} {ann : Ann} {p : List Nat} {L df : Nat} {t : List Value} {ps : Array Tmp} {args : List Value} {M : Mem} {K : Bool → Mem → Prop}
    (hM : M[L]? = some (rfO P .ready none f p t ps df)) (hn : args.length = ps.size) (hK : ∀ b M2, K b M2 → M2[L]? = some (rfO P .busy none f p t ps df))
    (h : wpRound P f L sym ann p t ps args M (M.set L (rfO P .busy none f p t ps df)) K) :
    ∃ b M2, K b M2 ∧ Rd P L args M b (M2.set L (rfO P (rfEnd b) (rfJ b) f p t ps df)) := by
  unfold wpRound at h
  obtain ⟨e, s1, h1, h2⟩ := wpAt_lp h
  split at h2
  · obtain ⟨hm, h2⟩ := h2
    obtain ⟨e2, s2, h3, h4⟩ := wpAt_lp h2
    have h3' : Ev P (Ret P) (.code f (some L) .normal (codeOf P f (p ++ [1])) { s1 with M := s1.M.set L (rfO P .busy none f p t ps df) }) (.code e2 s2) := by rw [hm]; exact h3
    split at h4
    · refine ⟨true, s2.M, h4, false, ?_⟩
      exact Ev.round hM hn h1 (by rw [hm]; exact hM) h3' (hK _ _ h4) (j := none) (.inl ⟨rfl, rfl⟩)
    · refine ⟨false, s2.M, h4, false, ?_⟩
      exact Ev.round hM hn h1 (by rw [hm]; exact hM) h3' (hK _ _ h4) (j := some .ret) (.inr (.inl ⟨rfl, rfl⟩))
    · exact h4.elim
  · exact h2.elim
theorem round_rdT {f : FuncId} {sym : Bool} {ann : Ann} {p : List Nat} {L df N : Nat} {pins : List (Nat × Value)} {t : List Value} (hT : TIn N pins t) {ps : Array Tmp} {args : List Value} {M : Mem} {K : Bool → Mem → Prop}
    (hM : M[L]? = some (rfO P .ready none f p t ps df)) (hn : args.length = ps.size) (hK : ∀ b M2, K b M2 → M2[L]? = some (rfO P .busy none f p t ps df))
    (h : ∀ (u : Nat → Value) (Mb : Mem), Mb = M.set L (rfO P .busy none f p t ps df) → wpRound P f L sym ann p (patchP pins (genC u N 0)) ps args M Mb K) :
    ∃ b M2, K b M2 ∧ Rd P L args M b (M2.set L (rfO P (rfEnd b) (rfJ b) f p t ps df)) := by
  refine round_rd (sym := sym) (ann := ann) hM hn hK ?_
  have := h (fun i => t.getD i undef) _ rfl
  rw [← hT.1, genC_self, patchP_ok hT.2] at this
  exact this
/-- A range over a function, run to its end. -/
theorem range_lp {f : FuncId} {p : List Nat} {fop : Operand} {ps : Array Tmp} (hc : codeOf P f p = .rangeFunc fop ps (codeOf P f (p ++ [0])) (codeOf P f (p ++ [1]))) (hx : okX fop = true) {t : List Value} {d : List ADef} {M : Mem} {rc : Bool}
    {g : FuncId} {first cap : Array Value} (hf : evA t fop = .func (.func g) first cap) (hw : walksIn P g = true) {v0 : Value} {M2 : Mem}
    (h : Ret P g (first.toList ++ [.func (.yield (M.length + 1)) #[] #[]] ++ cap.toList) (M ++ [.defers false, rfO P .ready none f p t ps M.length]) v0 M2)
    {b : Bool} (hl : M2[M.length + 1]? = some (rfO P (rfEnd b) (rfJ b) f p t ps M.length)) :
    Lp P (.fn f) p ⟨t, d, M, rc⟩ (match b with | true => .normal | false => .ret) ⟨t, .mark M.length :: d, M2.set (M.length + 1) (rfO P .exhausted (rfJ b) f p t ps M.length), rc⟩ := by
  unfold Lp
  show Ev P (Ret P) (.code f none .normal (codeOf P f p) _) _
  rw [hc]
  cases b with
  | true => exact .rangeFn hx hf hw h.ev hl (by simp [rfEnd])
  | false => exact .rangeFnJ hx hf hw h.ev hl (by simp [rfEnd]) (by intro bd e; simp at e) .ret

end Go.Proofs.YtabkcbaknjenmaaAM
