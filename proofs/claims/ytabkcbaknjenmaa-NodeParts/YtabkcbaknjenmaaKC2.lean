/-
  Part KC2 of the proof: merged texts.
-/
import Derived.Test.YtabkcbaknjenmaaKA3
import Derived.Test.YtabkcbaknjenmaaRows
import Derived.Test.YtabkcbaknjenmaaKC1
import Derived.Test.YtabkcbaknjenmaaKB3
import Derived.Test.YtabkcbaknjenmaaKB5
import Derived.WalkKit
import Derived.ProofKit
import Derived.OpenShut
import Derived.ChangeStays
import Derived.ChangeBears
import Derived.ReadAgain

/-
  THE NODE LAWS: what is to be shown for functions, printed by a program: NodeParts
-/
set_option linter.unusedVariables false
namespace Go.Proofs.YtabkcbaknjenmaaAM
open Go Go.Proofs
set_option maxRecDepth 100000
set_option maxHeartbeats 4000000
def ann4 : Ann := [([1, 1, 1, 1, 1, 1, 0, 1, 0], [3, 10, 11], [(some 4, [(10, some 3)]), (none, [(2, some 4)])]), ([1, 1, 1, 1, 0, 1, 0, 0, 1, 0, 0, 1, 1, 1, 0, 1, 0], [3, 4, 6, 5, 8], [(some 2, [(5, some 3)]), (none, [(2, some 4)])]), ([1, 1, 1, 1, 0, 1, 0], [3, 4], [(some 0, []), (none, [(2, some 4)])])]
theorem w4 {p0 : Option Addr} {p0n p0c : Nat} {M : Mem} {K : Value → Mem → Prop} (h : ∃ (b0 : Bool),
 ∃ (M1 : Mem),
 Ret Try.prog 20 [] M (.bool b0) M1 ∧
 cnd (!b0) (K (.bool false) M1)
 (∃ (a2 : Option Addr),
 ∃ (n3 : Nat),
 ∃ (n4 : Nat),
 sliceA Try.prog M1 25 (.slice p0 p0n p0c) none (some (Value.int .i64 (if Int.ofNat 300 < Int.ofNat p0n then Int.ofNat 300 else Int.ofNat p0n))) none =
 some (Value.slice a2 n3 n4) ∧
 ∃ (a5 : Option Addr),
 ∃ (n6 : Nat),
 ∃ (n7 : Nat),
 ∃ (a8 : Option Addr),
 ∃ (n9 : Nat),
 ∃ (n10 : Nat),
 ∃ (M11 : Mem),
 Ret Try.prog 11 [.slice a2 n3 n4] M1 (.agg (Array.mk [.slice a5 n6 n7, .slice a8 n9 n10])) M11 ∧
 ∃ (M12 : Mem),
 wrCells (M11 ++ [AObj.cells [.slice none 0 0, .slice none 0 0] 2 Mode.live]) (List.length M11) 0 [.slice a5 n6 n7, .slice a8 n9 n10] =
 some M12 ∧
 ∃ (a13 : Option Addr),
 ∃ (n14 : Nat),
 ∃ (n15 : Nat),
 ∃ (a16 : Option Addr),
 ∃ (n17 : Nat),
 ∃ (n18 : Nat),
 rdVar Try.prog M12 32 (List.length M11) 0 = some (.agg (Array.mk [.slice a13 n14 n15, .slice a16 n17 n18])) ∧
 ∃ (b19 : Bool),
 ∃ (M20 : Mem),
 Ret Try.prog 21 [.agg (Array.mk [.slice a13 n14 n15, .slice a16 n17 n18])] M12 (.bool b19) M20 ∧
 cnd (!b19) (K (.bool false) M20)
 (∀ (t21 : List Value),
 TIn 152 [(3, .pointer (some (.mk (List.length M11) 0 none))), (4, .int .i64 (Int.ofNat 0))] t21 →
 (∃ (M22 : Mem),
 LpT Try.prog (Env.fn 4) [1, 1, 1, 1, 0, 1, 0] t21 [] M20 false (.exit 0) [] M22 ∧
 ∀ (w23 : Nat → Value) (t24 : List Value),
 TIn 152
 [(3, .pointer (some (.mk (List.length M11) 0 none))), (10, .int .i64 (Int.ofNat 0)),
 (11, .int .i64 (Int.ofNat 0))]
 t24 →
 (∃ (i25 : Int),
 ∃ (M26 : Mem),
 LpT Try.prog (Env.fn 4) [1, 1, 1, 1, 1, 1, 0, 1, 0] t24 [] M22 false (.exit 4)
 [(10, .int .i64 i25)] M26 ∧
 ∀ (w27 : Nat → Value),
 ∃ (a28 : Option Addr),
 ∃ (n29 : Nat),
 ∃ (n30 : Nat),
 rdVar Try.prog M26 30 (List.length M11) 0 = some (.slice a28 n29 n30) ∧
 K (.bool (eqF i25 (Int.ofNat n29))) M26) ∨
 ∃ (b31 : Bool),
 ∃ (M32 : Mem),
 LpT Try.prog (Env.fn 4) [1, 1, 1, 1, 1, 1, 0, 1, 0] t24 [] M22 false .ret [(2, .bool b31)] M32 ∧
 ∀ (w33 : Nat → Value), K (.bool b31) M32) ∨
 ∃ (b34 : Bool),
 ∃ (M35 : Mem),
 LpT Try.prog (Env.fn 4) [1, 1, 1, 1, 0, 1, 0] t21 [] M20 false .ret [(2, .bool b34)] M35 ∧
 ∀ (w36 : Nat → Value), K (.bool b34) M35))) :
 Held (wpRet Try.prog 4 true ann4 [.slice p0 p0n p0c] M K) := held_of (by kernel_rfl) h
theorem loop4_0 {ut3 ut3o : Nat} {d : List ADef} {rc : Bool} (Inv : Nat → Int → Mem → Prop) (R0 : Mem → Prop) (R1 : Bool → Mem → Prop)
 (step : ∀ (n : Nat) (t4 : Int) (M : Mem), Inv n t4 M →
 ∃ (a0 : Option Addr),
 ∃ (n1 : Nat),
 ∃ (n2 : Nat),
 rdVar Try.prog M 30 ut3 ut3o = some (.slice a0 n1 n2) ∧
 cnd (!leF (Int.ofNat n1) t4)
 (∃ (a3 : Option Addr),
 ∃ (n4 : Nat),
 ∃ (n5 : Nat),
 ∃ (a6 : Option Addr),
 ∃ (n7 : Nat),
 ∃ (n8 : Nat),
 rdVar Try.prog M 32 ut3 ut3o = some (.agg (Array.mk [.slice a3 n4 n5, .slice a6 n7 n8])) ∧
 ∃ (i9 : Int),
 ∃ (M10 : Mem),
 Ret Try.prog 22 [.agg (Array.mk [.slice a3 n4 n5, .slice a6 n7 n8]), .int .i64 t4] M (.int .i64 i9) M10 ∧
 ∃ (a11 : Option Addr),
 ∃ (n12 : Nat),
 ∃ (n13 : Nat),
 rdVar Try.prog M10 30 ut3 ut3o = some (.slice a11 n12 n13) ∧
 ∃ (n14 : Nat),
 ∃ (n15 : Nat),
 idxA Try.prog 30 (.slice a11 n12 n13) (.int .i64 t4) = some (.pointer (some (.mk n14 n15 none))) ∧
 ∃ (i16 : Int),
 ∃ (s17 : ByteArray),
 ∃ (s18 : ByteArray),
 ∃ (a19 : Option Addr),
 ∃ (n20 : Nat),
 ∃ (n21 : Nat),
 ∃ (i22 : Int),
 rdVar Try.prog M10 24 n14 n15 =
 some
 (.agg
 (Array.mk
 [.int .i64 i16, .string s17, .string s18, .slice a19 n20 n21, .int .i64 i22])) ∧
 ∃ (a23 : Option Addr),
 ∃ (n24 : Nat),
 ∃ (n25 : Nat),
 ∃ (b26 : Bool),
 ∃ (M27 : Mem),
 Ret Try.prog 12
 [.agg
 (Array.mk
 [.int .i64 i16, .string s17, .string s18, .slice a19 n20 n21,
 .int .i64 i22])]
 M10 (.tuple (Array.mk [.slice a23 n24 n25, .bool b26])) M27 ∧
 cnd (!leF (Int.ofNat 0) (wrapF .i64 (Int.sub (wrapF .i64 (Int.add t4 (Int.ofNat 1))) i9)))
 (R1 false M27)
 (cnd (!b26) (R1 false M27)
 (∃ (a28 : Option Addr),
 ∃ (n29 : Nat),
 ∃ (n30 : Nat),
 rdVar Try.prog M27 30 ut3 ut3o = some (.slice a28 n29 n30) ∧
 ∃ (n31 : Nat),
 ∃ (n32 : Nat),
 idxA Try.prog 30 (.slice a28 n29 n30) (.int .i64 t4) =
 some (.pointer (some (.mk n31 n32 none))) ∧
 ∃ (a33 : Option Addr),
 ∃ (n34 : Nat),
 ∃ (n35 : Nat),
 rdVar Try.prog M27 22 n31 (Nat.succ (Nat.succ (Nat.succ n32))) =
 some (Value.slice a33 n34 n35) ∧
 cnd (!eqF (Int.ofNat n24) (Int.ofNat n34)) (R1 false M27)
 (∀ (t36 : List Value),
 TIn 152
 [(3, .pointer (some (.mk ut3 ut3o none))), (4, .int .i64 t4),
 (6, .slice a23 n24 n25),
 (5,
 .int .i64
 (wrapF .i64
 (Int.sub (wrapF .i64 (Int.add t4 (Int.ofNat 1))) i9))),
 (8, .int .i64 (Int.ofNat 0))]
 t36 →
 (∃ (i37 : Int),
 ∃ (M38 : Mem),
 LpT Try.prog (Env.fn 4) [1, 1, 1, 1, 0, 1, 0, 0, 1, 0, 0, 1, 1, 1, 0, 1, 0] t36
 d M27 rc (.exit 2) [(5, .int .i64 i37)] M38 ∧
 ∀ (w39 : Nat → Value),
 cnd (!eqF i37 t4) (R1 false M38)
 (∃ (n40 : Nat),
 n40 < n ∧ Inv n40 (wrapF .i64 (Int.add t4 (Int.ofNat 1))) M38)) ∨
 ∃ (b41 : Bool),
 ∃ (M42 : Mem),
 LpT Try.prog (Env.fn 4) [1, 1, 1, 1, 0, 1, 0, 0, 1, 0, 0, 1, 1, 1, 0, 1, 0] t36
 d M27 rc .ret [(2, .bool b41)] M42 ∧
 ∀ (w43 : Nat → Value), R1 b41 M42))))
 (R0 M) )
 {n : Nat} {t4 : Int} {M : Mem} (h0 : Inv n t4 M) {t0 : List Value} (hT : TIn 152 [(3, .pointer (some (.mk ut3 ut3o none))), (4, .int .i64 t4)] t0) :
 (∃ (M' : Mem), LpT Try.prog (Env.fn 4) [1, 1, 1, 1, 0, 1, 0] t0 d M rc (.exit 0) [] M' ∧ R0 M') ∨ (∃ (ot2 : Bool) (M' : Mem), LpT Try.prog (Env.fn 4) [1, 1, 1, 1, 0, 1, 0] t0 d M rc .ret [(2, .bool ot2)] M' ∧ R1 ot2 M') := by
 rcases loopT (P := Try.prog) (E := (Env.fn 4)) (sym := true) (ann := ann4) (p := [1, 1, 1, 1, 0, 1, 0]) (stepC (codeOf Try.prog 4 [1, 1, 1, 1, 0, 1, 0]) 0) (by kernel_rfl) (by kernel_rfl) [(3, .pointer (some (.mk ut3 ut3o none)))] [4] (by kernel_rfl) (fun n xs M => match xs with | [.int .i64 t4] => Inv n t4 M | _ => False) [((.exit 0), [], fun xs M => match xs with | [] => R0 M | _ => False), (.ret, [2], fun xs M => match xs with | [.bool ot2] => R1 ot2 M | _ => False)] (fun n xs M h uu => by split at h <;> first | exact h.elim | exact (held_of (by kernel_rfl) (step n _ M h)).ok) (xs := [.int .i64 t4]) hT rfl h0 with ⟨_, _, h, g⟩ | ⟨_, _, h, g⟩
 · split at g <;> first | exact (.inl ⟨_, h, g⟩) | exact g.elim
 · split at g <;> first | exact (.inr ⟨_, _, h, g⟩) | exact g.elim

theorem loop4_1 {ut3 ut3o : Nat} {ut4 : Int} {ut6 : Option Addr} {ut6n ut6c : Nat} {d : List ADef} {rc : Bool} (Inv : Nat → Int → Int → Mem → Prop) (R0 : Int → Mem → Prop) (R1 : Bool → Mem → Prop)
 (step : ∀ (n : Nat) (t5 t8 : Int) (M : Mem), Inv n t5 t8 M →
 cnd (!leF (Int.ofNat ut6n) t8)
 (∃ (a0 : Option Addr),
 ∃ (n1 : Nat),
 ∃ (n2 : Nat),
 rdVar Try.prog M 30 ut3 ut3o = some (.slice a0 n1 n2) ∧
 ∃ (n3 : Nat),
 ∃ (n4 : Nat),
 idxA Try.prog 30 (.slice a0 n1 n2) (.int .i64 ut4) = some (.pointer (some (.mk n3 n4 none))) ∧
 ∃ (a5 : Option Addr),
 ∃ (n6 : Nat),
 ∃ (n7 : Nat),
 rdVar Try.prog M 22 n3 (Nat.succ (Nat.succ (Nat.succ n4))) = some (.slice a5 n6 n7) ∧
 ∃ (n8 : Nat),
 ∃ (n9 : Nat),
 idxA Try.prog 22 (.slice a5 n6 n7) (.int .i64 t8) = some (.pointer (some (.mk n8 n9 none))) ∧
 ∃ (i10 : Int),
 rdVar Try.prog M 3 n8 n9 = some (.int .i64 i10) ∧
 ∃ (a11 : Option Addr),
 ∃ (n12 : Nat),
 ∃ (n13 : Nat),
 ∃ (a14 : Option Addr),
 ∃ (n15 : Nat),
 ∃ (n16 : Nat),
 rdVar Try.prog M 32 ut3 ut3o = some (.agg (Array.mk [.slice a11 n12 n13, .slice a14 n15 n16])) ∧
 ∃ (i17 : Int),
 ∃ (M18 : Mem),
 Ret Try.prog 22 [.agg (Array.mk [.slice a11 n12 n13, .slice a14 n15 n16]), .int .i64 i10] M
 (.int .i64 i17) M18 ∧
 cnd (!eqF (wrapF .i64 (Int.sub (wrapF .i64 (Int.add i10 (Int.ofNat 1))) i17)) t5) (True ∧ R1 false M18)
 (∃ (a19 : Option Addr),
 ∃ (n20 : Nat),
 ∃ (n21 : Nat),
 rdVar Try.prog M18 30 ut3 ut3o = some (.slice a19 n20 n21) ∧
 ∃ (n22 : Nat),
 ∃ (n23 : Nat),
 idxA Try.prog 30 (.slice a19 n20 n21) (.int .i64 i10) =
 some (.pointer (some (.mk n22 n23 none))) ∧
 ∃ (i24 : Int),
 rdVar Try.prog M18 3 n22 n23 = some (.int .i64 i24) ∧
 ∃ (n25 : Nat),
 ∃ (n26 : Nat),
 idxA Try.prog 22 (.slice ut6 ut6n ut6c) (.int .i64 t8) =
 some (.pointer (some (.mk n25 n26 none))) ∧
 ∃ (i27 : Int),
 rdVar Try.prog M18 3 n25 n26 = some (.int .i64 i27) ∧
 ∃ (b28 : Bool),
 ∃ (M29 : Mem),
 Ret Try.prog 18 [.int .i64 i24, .int .i64 i27] M18 (.bool b28) M29 ∧
 True ∧
 cnd (!b28) (R1 false M29)
 (∃ (n30 : Nat),
 n30 < n ∧
 Inv n30 (wrapF .i64 (Int.add i10 (Int.ofNat 1)))
 (wrapF .i64 (Int.add t8 (Int.ofNat 1))) M29)))
 (R0 t5 M) )
 {n : Nat} {t5 t8 : Int} {M : Mem} (h0 : Inv n t5 t8 M) {t0 : List Value} (hT : TIn 152 [(3, .pointer (some (.mk ut3 ut3o none))), (4, .int .i64 ut4), (6, .slice ut6 ut6n ut6c), (5, .int .i64 t5), (8, .int .i64 t8)] t0) :
 (∃ (ot5 : Int) (M' : Mem), LpT Try.prog (Env.fn 4) [1, 1, 1, 1, 0, 1, 0, 0, 1, 0, 0, 1, 1, 1, 0, 1, 0] t0 d M rc (.exit 2) [(5, .int .i64 ot5)] M' ∧ R0 ot5 M') ∨ (∃ (ot2 : Bool) (M' : Mem), LpT Try.prog (Env.fn 4) [1, 1, 1, 1, 0, 1, 0, 0, 1, 0, 0, 1, 1, 1, 0, 1, 0] t0 d M rc .ret [(2, .bool ot2)] M' ∧ R1 ot2 M') := by
 rcases loopT (P := Try.prog) (E := (Env.fn 4)) (sym := true) (ann := ann4) (p := [1, 1, 1, 1, 0, 1, 0, 0, 1, 0, 0, 1, 1, 1, 0, 1, 0]) (stepC (codeOf Try.prog 4 [1, 1, 1, 1, 0, 1, 0, 0, 1, 0, 0, 1, 1, 1, 0, 1, 0]) 0) (by kernel_rfl) (by kernel_rfl) [(3, .pointer (some (.mk ut3 ut3o none))), (4, .int .i64 ut4), (6, .slice ut6 ut6n ut6c)] [5, 8] (by kernel_rfl) (fun n xs M => match xs with | [.int .i64 t5, .int .i64 t8] => Inv n t5 t8 M | _ => False) [((.exit 2), [5], fun xs M => match xs with | [.int .i64 ot5] => R0 ot5 M | _ => False), (.ret, [2], fun xs M => match xs with | [.bool ot2] => R1 ot2 M | _ => False)] (fun n xs M h uu => by split at h <;> first | exact h.elim | exact (held_of (by kernel_rfl) (step n _ _ M h)).ok) (xs := [.int .i64 t5, .int .i64 t8]) hT rfl h0 with ⟨_, _, h, g⟩ | ⟨_, _, h, g⟩
 · split at g <;> first | exact (.inl ⟨_, _, h, g⟩) | exact g.elim
 · split at g <;> first | exact (.inr ⟨_, _, h, g⟩) | exact g.elim

theorem loop4_2 {ut3 ut3o : Nat} {d : List ADef} {rc : Bool} (Inv : Nat → Int → Int → Mem → Prop) (R0 : Int → Mem → Prop) (R1 : Bool → Mem → Prop)
 (step : ∀ (n : Nat) (t10 t11 : Int) (M : Mem), Inv n t10 t11 M →
 ∃ (a0 : Option Addr),
 ∃ (n1 : Nat),
 ∃ (n2 : Nat),
 rdVar Try.prog M 22 ut3 (Nat.succ ut3o) = some (.slice a0 n1 n2) ∧
 cnd (!leF (Int.ofNat n1) t11)
 (∃ (a3 : Option Addr),
 ∃ (n4 : Nat),
 ∃ (n5 : Nat),
 rdVar Try.prog M 22 ut3 (Nat.succ ut3o) = some (.slice a3 n4 n5) ∧
 ∃ (n6 : Nat),
 ∃ (n7 : Nat),
 idxA Try.prog 22 (.slice a3 n4 n5) (.int .i64 t11) = some (.pointer (some (.mk n6 n7 none))) ∧
 ∃ (i8 : Int),
 rdVar Try.prog M 3 n6 n7 = some (.int .i64 i8) ∧
 ∃ (a9 : Option Addr),
 ∃ (n10 : Nat),
 ∃ (n11 : Nat),
 ∃ (a12 : Option Addr),
 ∃ (n13 : Nat),
 ∃ (n14 : Nat),
 rdVar Try.prog M 32 ut3 ut3o = some (.agg (Array.mk [.slice a9 n10 n11, .slice a12 n13 n14])) ∧
 ∃ (a15 : Option Addr),
 ∃ (n16 : Nat),
 ∃ (n17 : Nat),
 rdVar Try.prog M 22 ut3 (Nat.succ ut3o) = some (.slice a15 n16 n17) ∧
 ∃ (n18 : Nat),
 ∃ (n19 : Nat),
 idxA Try.prog 22 (.slice a15 n16 n17) (.int .i64 t11) = some (.pointer (some (.mk n18 n19 none))) ∧
 ∃ (i20 : Int),
 rdVar Try.prog M 3 n18 n19 = some (.int .i64 i20) ∧
 ∃ (i21 : Int),
 ∃ (M22 : Mem),
 Ret Try.prog 22 [.agg (Array.mk [.slice a9 n10 n11, .slice a12 n13 n14]), .int .i64 i20] M
 (.int .i64 i21) M22 ∧
 cnd (!eqF (wrapF .i64 (Int.sub (wrapF .i64 (Int.add i8 (Int.ofNat 1))) i21)) t10)
 ((((ut3 < List.length M → M22[ut3]? = M[ut3]?) ∧ True) ∧ ((n6 < List.length M → M22[n6]? = M[n6]?) ∧ True) ∧ True) ∧
 R1 false M22)
 (∃ (a31 : Option Addr),
 ∃ (n32 : Nat),
 ∃ (n33 : Nat),
 rdVar Try.prog M22 30 ut3 ut3o = some (.slice a31 n32 n33) ∧
 ∃ (a34 : Option Addr),
 ∃ (n35 : Nat),
 ∃ (n36 : Nat),
 rdVar Try.prog M22 22 ut3 (Nat.succ ut3o) = some (.slice a34 n35 n36) ∧
 ∃ (n37 : Nat),
 ∃ (n38 : Nat),
 idxA Try.prog 22 (.slice a34 n35 n36) (.int .i64 t11) =
 some (.pointer (some (.mk n37 n38 none))) ∧
 ∃ (i39 : Int),
 rdVar Try.prog M22 3 n37 n38 = some (.int .i64 i39) ∧
 ∃ (n40 : Nat),
 ∃ (n41 : Nat),
 idxA Try.prog 30 (.slice a31 n32 n33) (.int .i64 i39) =
 some (.pointer (some (.mk n40 n41 none))) ∧
 ∃ (i42 : Int),
 rdVar Try.prog M22 3 n40 n41 = some (.int .i64 i42) ∧
 (((ut3 < List.length M → M22[ut3]? = M[ut3]?) ∧ True) ∧
 ((n6 < List.length M → M22[n6]? = M[n6]?) ∧ True) ∧ True) ∧
 cnd (!eqF i42 (Int.ofNat 13)) (R1 false M22)
 (∃ (a51 : Option Addr),
 ∃ (n52 : Nat),
 ∃ (n53 : Nat),
 rdVar Try.prog M22 22 ut3 (Nat.succ ut3o) = some (.slice a51 n52 n53) ∧
 ∃ (n54 : Nat),
 ∃ (n55 : Nat),
 idxA Try.prog 22 (.slice a51 n52 n53)
 (.int .i64 t11) =
 some (.pointer (some (.mk n54 n55 none))) ∧
 ∃ (i56 : Int),
 rdVar Try.prog M22 3 n54 n55 = some (.int .i64 i56) ∧
 ∃ (n57 : Nat),
 n57 < n ∧
 Inv n57 (wrapF .i64 (Int.add i56 (Int.ofNat 1)))
 (wrapF .i64 (Int.add t11 (Int.ofNat 1))) M22)))
 (R0 t10 M) )
 {n : Nat} {t10 t11 : Int} {M : Mem} (h0 : Inv n t10 t11 M) {t0 : List Value} (hT : TIn 152 [(3, .pointer (some (.mk ut3 ut3o none))), (10, .int .i64 t10), (11, .int .i64 t11)] t0) :
 (∃ (ot10 : Int) (M' : Mem), LpT Try.prog (Env.fn 4) [1, 1, 1, 1, 1, 1, 0, 1, 0] t0 d M rc (.exit 4) [(10, .int .i64 ot10)] M' ∧ R0 ot10 M') ∨ (∃ (ot2 : Bool) (M' : Mem), LpT Try.prog (Env.fn 4) [1, 1, 1, 1, 1, 1, 0, 1, 0] t0 d M rc .ret [(2, .bool ot2)] M' ∧ R1 ot2 M') := by
 rcases loopT (P := Try.prog) (E := (Env.fn 4)) (sym := true) (ann := ann4) (p := [1, 1, 1, 1, 1, 1, 0, 1, 0]) (stepC (codeOf Try.prog 4 [1, 1, 1, 1, 1, 1, 0, 1, 0]) 0) (by kernel_rfl) (by kernel_rfl) [(3, .pointer (some (.mk ut3 ut3o none)))] [10, 11] (by kernel_rfl) (fun n xs M => match xs with | [.int .i64 t10, .int .i64 t11] => Inv n t10 t11 M | _ => False) [((.exit 4), [10], fun xs M => match xs with | [.int .i64 ot10] => R0 ot10 M | _ => False), (.ret, [2], fun xs M => match xs with | [.bool ot2] => R1 ot2 M | _ => False)] (fun n xs M h uu => by split at h <;> first | exact h.elim | exact (held_of (by kernel_rfl) (step n _ _ M h)).ok) (xs := [.int .i64 t10, .int .i64 t11]) hT rfl h0 with ⟨_, _, h, g⟩ | ⟨_, _, h, g⟩
 · split at g <;> first | exact (.inl ⟨_, _, h, g⟩) | exact g.elim
 · split at g <;> first | exact (.inr ⟨_, _, h, g⟩) | exact g.elim


end Go.Proofs.YtabkcbaknjenmaaAM

/-
  THE NODE LAWS: NodeParts.
-/
set_option linter.unusedVariables false
set_option linter.unusedSimpArgs false
namespace Go.Proofs.YtabkcbaknjenmaaAM
open Go Go.Proofs
set_option maxRecDepth 100000
set_option maxHeartbeats 4000000

theorem Drawn.good {M M' : Mem} {v : Value} {ns : List GN} {defs : List Nat} (h : Drawn M M' v ns defs) : GoodT ns defs 11 := ⟨h.ok, h.whole, by have := h.len.2.2; omega, by have := h.len.2.1; omega⟩
theorem good_checked {M : Mem} {v : Value} {ns : List GN} {defs : List Nat} {H : Nat} (hT : TreeR M v (ndOf 0 ns) (defs.map Int.ofNat)) (hG : GoodT ns defs H) :
    ∃ a c M', Ret Try.prog 43 [v] M (.tuple ⟨[.slice a ns.length c, .int .i64 (depthS (ndOf 0 ns)), .bool (leF (depthS (ndOf 0 ns)) (Int.ofNat 256))]⟩) M' ∧ Keep M M' ∧ SliceR M' 1 a ns.length c (ints (szL ns)) := by
  have hl := hG.len
  have := checked_good hT (by rw [ndOf_len]; omega) (by have := hG.dl; simp; omega) (fun n hn => by
    obtain ⟨k, hk, rfl⟩ := mem_ndOf hn
    have := (hG.ok k ns[k] (List.getElem?_eq_getElem hk)).short
    simp; omega) hG.sizes hG.wholes (fun n hn => by
    obtain ⟨k, hk, rfl⟩ := mem_ndOf hn
    have hO := hG.ok k ns[k] (List.getElem?_eq_getElem hk)
    exact ⟨hO.fit _, ⟨_, hO.kind, rfl⟩, short_of hO.short.1 (by decide), short_of hO.short.2.1 (by decide)⟩) (fun i hi k hk => by
    have hi2 : i < ns.length := by rw [ndOf_len] at hi; exact hi
    rw [nd_at hi2] at hk
    obtain ⟨q, hq, rfl⟩ := List.mem_map.1 hk
    obtain ⟨ss, h1, h2⟩ := (hG.ok i ns[i] (List.getElem?_eq_getElem hi2)).ks
    have := h2.le.2 q hq
    exact ⟨Int.natCast_nonneg q, by show (q : Int) < i; omega⟩)
  rw [szL_len] at this
  exact this
theorem le256 {ns : List GN} {defs : List Nat} {H : Nat} (hG : GoodT ns defs H) (hH : H ≤ 256) : leF (depthS (ndOf 0 ns)) (Int.ofNat 256) = true := by
  have := hG.depth
  exact leF_t.2 (by show _ ≤ ((256 : Nat) : Int); omega)
theorem right_ret {M : Mem} {v : Value} {ns : List GN} {defs : List Nat} {H : Nat} (hT : TreeR M v (ndOf 0 ns) (defs.map Int.ofNat)) (hG : GoodT ns defs H) (hH : H ≤ 256) : ∃ M', Ret Try.prog 21 [v] M (.bool true) M' ∧ Keep M M' := by
  have hT0 := hT
  obtain ⟨na, nc, da, dc, cs, rfl, hN, hR, hD⟩ := hT
  have k0 : Keep M (M ++ [AObj.cells [.slice na (ndOf 0 ns).length nc, .slice da (defs.map Int.ofNat).length dc] 2 .live]) := .app _ _
  obtain ⟨a, c, M1, h1, k1, h2⟩ := good_checked (hT0.keep k0) hG
  rw [le256 hG hH] at h1
  have key := Ret.wpH hP (K := fun v M' => v = .bool true ∧ Keep M M') (w21 (M := M) ⟨_, _, _, _, _, _, (At.last M _ 2).rdA k32 s32, _, _, _, _, _, _, h1, rfl, k0.trans k1⟩)
  obtain ⟨v, M', h1, rfl, h2⟩ := key
  exact ⟨M', h1, h2⟩
theorem size_ret {M : Mem} {v : Value} {ns : List GN} {defs : List Nat} {H : Nat} (hT : TreeR M v (ndOf 0 ns) (defs.map Int.ofNat)) (hG : GoodT ns defs H) (hH : H ≤ 256) {k : Nat} {n : GN} (hk : ns[k]? = some n) : ∃ M', Ret Try.prog 22 [v, .int .i64 (Int.ofNat k)] M (.int .i64 (Int.ofNat n.size)) M' ∧ Keep M M' := by
  obtain ⟨hkl, rfl⟩ := List.getElem?_eq_some_iff.1 hk
  have hT0 := hT
  obtain ⟨na, nc, da, dc, cs, rfl, hN, hR, hD⟩ := hT
  have k0 : Keep M (M ++ [AObj.cells [.slice na (ndOf 0 ns).length nc, .slice da (defs.map Int.ofNat).length dc] 2 .live]) := .app _ _
  obtain ⟨a, c, M1, h1, k1, h2⟩ := good_checked (hT0.keep k0) hG
  rw [le256 hG hH] at h1
  have hks : k < (szL ns).length := by rw [szL_len]; exact hkl
  obtain ⟨y, o, q1, q2⟩ := ints_at h2.row hks (c := c) (i := Int.ofNat k) rfl
  rw [szL_len] at q1
  have e : (szL ns)[k] = Int.ofNat ns[k].size := by simp [szL]
  rw [e] at q2
  have key := Ret.wpH hP (K := fun v M' => v = .int .i64 (Int.ofNat ns[k].size) ∧ Keep M M') (w22 (p1 := Int.ofNat k) (M := M) ⟨_, _, _, _, _, _, (At.last M _ 2).rdA k32 s32, _, _, _, _, _, _, h1, cnd_f (cnd_f' (by
    have : leF (Int.ofNat 0) (Int.ofNat k) = true := leF_t.2 (Int.natCast_nonneg k)
    rw [this]; rfl) (cnd_f' (leF_f.2 (Int.ofNat_lt.2 hkl)) ⟨_, _, q1, _, q2, rfl, k0.trans k1⟩))⟩)
  obtain ⟨v, M', h1, rfl, h2⟩ := key
  exact ⟨M', h1, h2⟩

theorem lp_orX {L : Int → Mem → Prop} {L' : Bool → Mem → Prop} {R S : Int → Mem → Prop} {X : Prop} (h : (∃ t M', L t M' ∧ R t M') ∨ (∃ b M', L' b M' ∧ False)) (k : ∀ t M', R t M' → S t M') : (∃ t M', L t M' ∧ ((Nat → Value) → S t M')) ∨ X := by
  rcases h with ⟨t, M', h1, h2⟩ | ⟨_, _, _, h⟩
  · exact .inl ⟨t, M', h1, fun _ => k _ _ h2⟩
  · exact h.elim
theorem lp_or0 {L : Mem → Prop} {L' : Bool → Mem → Prop} {R : Mem → Prop} {S : Mem → List Value → Prop} {X : Prop} (h : (∃ M', L M' ∧ R M') ∨ (∃ b M', L' b M' ∧ False)) (k : ∀ M', R M' → ∀ t, S M' t) : (∃ M', L M' ∧ ∀ (w : Nat → Value) (t : List Value), S M' t) ∨ X := by
  rcases h with ⟨M', h1, h2⟩ | ⟨_, _, _, h⟩
  · exact .inl ⟨M', h1, fun _ => k _ h2⟩
  · exact h.elim
theorem parts_ret {M : Mem} {l : List UInt8} {la : Option Addr} {lc : Nat} (hl : Given M 1 la l.length lc (l.map fun b => .int .u8 (b.toNat : Nat))) :
    ∃ M', Ret Try.prog 4 [.slice la l.length lc] M (.bool true) M' := by
  suffices hh : ∃ v M', Ret Try.prog 4 [.slice la l.length lc] M v M' ∧ v = .bool true by
    obtain ⟨v, M', h1, rfl⟩ := hh
    exact ⟨M', h1⟩
  refine Ret.wpH hP (K := fun v M' => v = .bool true) (w4 (p0 := la) (p0n := l.length) (p0c := lc) (M := M) ⟨_, _, works_ret M, cnd_f ?_⟩)
  obtain ⟨lc', g1, g2⟩ := hl.cut (ty := 25) (e := 5) (by kernel_rfl) (by kernel_rfl) (Nat.min_le_left l.length 300)
  rw [← minI] at g1
  have hlm : (l.map fun b => Value.int .u8 (b.toNat : Nat)).take (min l.length 300 * 1) = (l.take (min l.length 300)).map fun b => Value.int .u8 (b.toNat : Nat) := by rw [Nat.mul_one, List.map_take]
  rw [hlm] at g2
  have hlen : (l.take (min l.length 300)).length = min l.length 300 := by simp
  have g4 : ∀ y ∈ blk la, y < M.length := by
    intro y hy
    rcases g2.1.2 with ⟨e, _⟩ | ⟨x, o, vs, u, m, e, e2, _⟩
    · rw [e] at hy; simp [blk] at hy
    · rw [e] at hy; simp [blk] at hy; subst hy; exact (List.getElem?_eq_some_iff.1 e2).1
  obtain ⟨vT, M1, ns, defs, h1, hDr⟩ := tree_ret (c := lc') g2.1.row g4 (by rw [hlen]; omega)
  rw [hlen] at h1
  obtain ⟨hK1, hT, hS⟩ := hDr.tree
  have hG := hDr.good
  have hT0 := hT
  obtain ⟨na, nc, da, dc, cs, rfl, hN, hR, hD⟩ := hT0
  have hnl := hG.len
  have w1 := wr_last (M := M1) (vs := [.slice none 0 0, .slice none 0 0]) (new := [.slice na (ndOf 0 ns).length nc, .slice da (defs.map Int.ofNat).length dc]) (u := 2) rfl rfl
  have hA := At.last M1 [.slice na (ndOf 0 ns).length nc, .slice da (defs.map Int.ofNat).length dc] 2
  have k2 : Keep M1 (M1 ++ [AObj.cells [.slice na (ndOf 0 ns).length nc, .slice da (defs.map Int.ofNat).length dc] 2 .live]) := .app _ _
  have hbox := get_last M1 (AObj.cells [.slice na (ndOf 0 ns).length nc, .slice da (defs.map Int.ofNat).length dc] 2 .live)
  refine ⟨_, _, _, g1, _, _, _, _, _, _, _, h1, _, w1, ?_⟩
  generalize M1 ++ [AObj.cells [.slice na (ndOf 0 ns).length nc, .slice da (defs.map Int.ofNat).length dc] 2 .live] = M2 at *
  have hT2 := hT.keep k2
  obtain ⟨M3, h3, k3'⟩ := right_ret hT2 hG (by decide)
  refine ⟨_, _, _, _, _, _, hA.rdA k32 s32, _, _, h3, cnd_f fun t0 hTI => ?_⟩
  have tree32 : ∀ {Mx : Mem}, Keep M2 Mx → rdVar Try.prog Mx 32 M1.length 0 = _ := fun k => (hA.keep k).rdA k32 s32
  have tree30 : ∀ {Mx : Mem}, Keep M2 Mx → rdVar Try.prog Mx 30 M1.length 0 = some (.slice na (ndOf 0 ns).length nc) := fun k => (hA.keep k).rd k30 (o := 0) rfl
  have tree22 : ∀ {Mx : Mem}, Keep M2 Mx → rdVar Try.prog Mx 22 M1.length 1 = some (.slice da (defs.map Int.ofNat).length dc) := fun k => (hA.keep k).rd k22 (o := 1) rfl
  have addN : ∀ k : Nat, k ≤ 400000 → wrapF .i64 (Int.add (Int.ofNat k) (Int.ofNat 1)) = Int.ofNat (k + 1) := fun k hk => add64 (by omega)
  have hdl := hG.dl
  have lp0 := loop4_0 (Inv := fun n t M4 => ∃ k : Nat, t = Int.ofNat k ∧ k + n = ns.length ∧ Keep M2 M4) (R0 := fun M4 => Keep M2 M4) (R1 := fun _ _ => False) (step := by
    rintro n t M4 ⟨k, rfl, hkn, k4⟩
    refine ⟨_, _, _, tree30 k4, cnd_of (fun hlt => ?_) (fun hge => k4)⟩
    have hlt := leF_lt hlt
    have hlt2 : k < ns.length := by rw [ndOf_len] at hlt; exact hlt
    have hgk : ns[k]? = some ns[k] := List.getElem?_eq_getElem hlt2
    have hO := hG.ok k _ hgk
    obtain ⟨ss, hss, hfit⟩ := hO.ks
    obtain ⟨M10, h10, k10⟩ := size_ret (hT2.keep k4) hG (by decide) hgk
    have K10 := k4.trans k10
    obtain ⟨y, o, ka, kc, u1, u2, u3, u4, u5⟩ := node_at (hN.keep (k2.trans K10)) (hR.keep (k2.trans K10)) hlt (i := Int.ofNat k) rfl
    rw [nd_at hlt2] at u3 u4 u5
    dsimp only at u3 u4 u5
    obtain ⟨v, M27, h27, k27, r27⟩ := kids_ret (i := Int.ofNat ns[k].kind) (nm := ns[k].name) (ar := ns[k].arg) (a := ka) (n := (ns[k].kids.map Int.ofNat).length) (c := kc) (pos := Int.ofNat k) (short_of hO.short.1 (by decide)) (short_of hO.short.2.1 (by decide)) (by have := hO.short.2.2; simp; omega) M10
    rw [show (ns[k].kids.map Int.ofNat).length = ns[k].kids.length by simp, hss] at r27
    obtain ⟨a23, c23, rfl, row23⟩ := r27
    have K27 := K10.trans k27
    have hsz := hO.sz
    have hsl := kidsS_some hss
    have hfrom : wrapF .i64 (Int.sub (wrapF .i64 (Int.add (Int.ofNat k) (Int.ofNat 1))) (Int.ofNat ns[k].size)) = Int.ofNat (k + 1 - ns[k].size) := by
      rw [addN k (by omega), sub64 (by omega) (by omega)]
    refine ⟨_, _, _, _, _, _, tree32 k4, _, _, h10, _, _, _, tree30 K10, _, _, u1, _, _, _, _, _, _, _, u4, _, _, _, _, _, h27, ?_⟩
    rw [hfrom]
    have hc0 : leF (Int.ofNat 0) (Int.ofNat (k + 1 - ns[k].size)) = true := leF_t.2 (Int.natCast_nonneg _)
    refine cnd_f' (by rw [hc0]; rfl) (cnd_f ⟨_, _, _, tree30 K27, _, _, u1, _, _, _, rd_of_cell k22 (k27.cell (u3 3 _ rfl)), cnd_f' (by
      have : eqF (Int.ofNat ss.length) (Int.ofNat (ns[k].kids.map Int.ofNat).length) = true := eqF_t.2 (by rw [hsl]; simp)
      rw [this]; rfl) fun t1 hT1 => ?_⟩)
    have lp1 := loop4_1 (Inv := fun m t5 t8 M5 => ∃ q fr : Nat, t8 = Int.ofNat q ∧ q + m = ns[k].kids.length ∧ t5 = Int.ofNat fr ∧ Fits ns (ns[k].ht - 1) (kidP ns[k].kind ss) fr q (ns[k].kids.drop q) k ∧ Keep M27 M5) (R0 := fun t5 M5 => t5 = Int.ofNat k ∧ Keep M27 M5) (R1 := fun _ _ => False) (step := by
      rintro m t5 t8 M5 ⟨q, fr, rfl, hq, rfl, hF, k5⟩
      refine cnd_of (fun hlt3 => ?_) (fun hge3 => ?_)
      · have hlt3 := leF_lt hlt3
        have hq2 : q < ns[k].kids.length := by omega
        rw [List.drop_eq_getElem_cons hq2] at hF
        obtain ⟨nk, f1, f2, f3, f4, f5, f6⟩ := hF
        have hkb := (hfit.le.2 _ (List.getElem_mem hq2)).2
        obtain ⟨M18, h18, k18⟩ := size_ret (hT2.keep (K27.trans k5)) hG (by decide) f1
        have u5' := u5.keep (k27.trans k5)
        obtain ⟨y2, o2, v1, v2⟩ := ints_at u5'.row (k := q) (by simpa using hq2) (c := kc) rfl
        have hkd : (ns[k].kids.map Int.ofNat)[q]'(by simpa using hq2) = Int.ofNat ns[k].kids[q] := by simp
        rw [hkd] at v2
        generalize ns[k].kids[q] = kid at *
        obtain ⟨hkid, rfl⟩ := List.getElem?_eq_some_iff.1 f1
        have K18 := (K27.trans k5).trans k18
        obtain ⟨y3, o3, ka3, kc3, p1, p2, p3, p4, p5⟩ := node_at (hN.keep (k2.trans K18)) (hR.keep (k2.trans K18)) (k := kid) (by rw [ndOf_len]; exact hkid) (i := Int.ofNat kid) rfl
        rw [nd_at hkid] at p3
        obtain ⟨y4, o4, s1, s2⟩ := ints_at ((k5.trans k18).row row23) (k := q) (by omega) (c := c23) rfl
        have hsg : ss[q]'(by omega) = ss.getD q 9 := by simp [List.getD, hsl, hq2]
        rw [hsg] at s2
        have hp1 : wrapF .i64 (Int.add (Int.ofNat kid) (Int.ofNat 1)) = Int.ofNat (kid + 1) := addN kid (by omega)
        have hp2 : wrapF .i64 (Int.sub (Int.ofNat (kid + 1)) (Int.ofNat ns[kid].size)) = Int.ofNat fr := by
          rw [sub64 (by omega) (by omega)]; congr 1; omega
        refine ⟨_, _, _, tree30 (K27.trans k5), _, _, u1, _, _, _, rd_of_cell k22 ((k27.trans k5).cell (u3 3 _ rfl)), _, _, v1, _, v2, _, _, _, _, _, _, tree32 (K27.trans k5), _, _, h18, ?_⟩
        rw [hp1, hp2]
        exact cnd_f' (by rw [eqF_self]; rfl) ⟨_, _, _, tree30 K18, _, _, p1, _, rd_of_cell k3 (p3 0 _ rfl), _, _, s1, _, s2, _, _, is_ret _ _ _, trivial, cnd_f' (by rw [f4.1]; rfl) ⟨m - 1, by omega, q + 1, kid + 1, add64 (by have := hO.short.2.2; omega), by omega, rfl, f6, k5.trans k18⟩⟩
      · have hge3 := leF_ge hge3
        rw [List.drop_eq_nil_of_le (by omega)] at hF
        have hF : fr = k := hF
        exact ⟨by rw [hF], k5⟩) (n := ns[k].kids.length) (d := []) (rc := false) ⟨0, k + 1 - ns[k].size, rfl, by omega, rfl, hfit, .refl _⟩ hT1
    refine lp_orX lp1 fun t5 M5 hR5 => ?_
    obtain ⟨rfl, k5⟩ := hR5
    exact cnd_f' (by rw [eqF_self]; rfl) ⟨n - 1, by omega, k + 1, add64 (by omega), by omega, K27.trans k5⟩) (n := ns.length) (d := []) (rc := false) ⟨0, rfl, by omega, k3'⟩ hTI
  refine lp_or0 lp0 fun M4 k4 t1 hT1 => ?_
  have lp2 := loop4_2 (Inv := fun m t10 t11 M5 => ∃ q fr : Nat, t11 = Int.ofNat q ∧ q + m = defs.length ∧ t10 = Int.ofNat fr ∧ Fits ns 11 (fun _ kk => kk = 13) fr q (defs.drop q) ns.length ∧ Keep M2 M5) (R0 := fun t10 M5 => t10 = Int.ofNat ns.length ∧ Keep M2 M5) (R1 := fun _ _ => False) (step := by
    rintro m t10 t11 M5 ⟨q, fr, rfl, hq, rfl, hF, k5⟩
    refine ⟨_, _, _, tree22 k5, cnd_of (fun hlt3 => ?_) (fun hge3 => ?_)⟩
    · have hlt3 := leF_lt hlt3
      have hq2 : q < defs.length := by simpa using hlt3
      have hkb := (hG.whole.le.2 _ (List.getElem_mem hq2)).2
      rw [List.drop_eq_getElem_cons hq2] at hF
      obtain ⟨nk, f1, f2, f3, f4, f5, f6⟩ := hF
      obtain ⟨M18, h18, k18⟩ := size_ret (hT2.keep k5) hG (by decide) f1
      obtain ⟨y2, o2, v1, v2⟩ := ints_at (hD.keep (k2.trans k5)).row (k := q) (by simpa using hq2) (c := dc) rfl
      have hkd : (defs.map Int.ofNat)[q]'(by simpa using hq2) = Int.ofNat defs[q] := by simp
      rw [hkd] at v2
      have v2' := rdVar_keep v2 k18
      generalize defs[q] = kid at *
      obtain ⟨hkid, rfl⟩ := List.getElem?_eq_some_iff.1 f1
      have K18 := k5.trans k18
      obtain ⟨y3, o3, ka3, kc3, p1, p2, p3, p4, p5⟩ := node_at (hN.keep (k2.trans K18)) (hR.keep (k2.trans K18)) (k := kid) (by rw [ndOf_len]; exact hkid) (i := Int.ofNat kid) rfl
      rw [nd_at hkid] at p3
      have hp1 : wrapF .i64 (Int.add (Int.ofNat kid) (Int.ofNat 1)) = Int.ofNat (kid + 1) := addN kid (by omega)
      have hp2 : wrapF .i64 (Int.sub (Int.ofNat (kid + 1)) (Int.ofNat ns[kid].size)) = Int.ofNat fr := by
        rw [sub64 (by omega) (by omega)]; congr 1; omega
      have calm : ∀ x, x < M5.length → M18[x]? = M5[x]? := fun x hx => k18.same hx
      refine ⟨_, _, _, tree22 k5, _, _, v1, _, v2, _, _, _, _, _, _, tree32 k5, _, _, _, tree22 k5, _, _, v1, _, v2, _, _, h18, ?_⟩
      rw [hp1, hp2]
      refine cnd_f' (by rw [eqF_self]; rfl) ⟨_, _, _, tree30 K18, _, _, _, tree22 K18, _, _, v1, _, v2', _, _, p1, _, rd_of_cell k3 (p3 0 _ rfl), ⟨⟨calm _, trivial⟩, ⟨calm _, trivial⟩, trivial⟩, ?_⟩
      rw [f4]
      exact cnd_f ⟨_, _, _, tree22 K18, _, _, v1, _, v2', m - 1, by omega, q + 1, kid + 1, add64 (by omega), by omega, hp1, f6, K18⟩
    · have hge3 := leF_ge hge3
      rw [List.drop_eq_nil_of_le (by simpa using hge3)] at hF
      have hF : fr = ns.length := hF
      exact ⟨by rw [hF], k5⟩) (n := defs.length) (d := []) (rc := false) ⟨0, 0, rfl, by omega, rfl, hG.whole, k4⟩ hT1
  refine lp_orX lp2 fun t10 M5 hR5 => ?_
  obtain ⟨rfl, k5⟩ := hR5
  refine ⟨_, _, _, tree30 k5, ?_⟩
  rw [ndOf_len, eqF_self]

end Go.Proofs.YtabkcbaknjenmaaAM

/-
  THE NODE LAWS: what a law is given, as it lies in memory; that it reads as it did behind the call.
-/
set_option linter.unusedVariables false
set_option linter.unusedSimpArgs false
namespace Go.Proofs.YtabkcbaknjenmaaAM
open Go Go.Proofs Go.ChangeShapes Go.WideShapes Go.RowKit
set_option maxRecDepth 100000
set_option maxHeartbeats 4000000

/-- A call that answers something plain, and writes nothing that was: the world is as it was, and maybe more. -/
theorem calls_same {P : Program} {f : FuncId} {args : List Value} {M M' : Mem} {v : Value} (h : Ret P f args M v M') {ρ : Rho} {w : World} {argsC : Array Value} (hR : Rel ρ M w) (ha : LRel ρ args argsC.toList) (hn : ∀ k, ¬ Wb ρ M k) (hv : plain1 v = true) :
    Calls P f argsC w fun e w' => e = .returned v ∧ Grown w w' ∧ ∀ k, k < w.heap.size → w'.heap[k]? = w.heap[k]? := by
  intro cs
  obtain ⟨ρ', w', fr, h1, h2, h3, h4, h5, h6, h7, fn, v', h8, h9, h10⟩ := h ρ w argsC (fun _ => cs) hR ha (fun _ => rfl)
  have hvv := plain1_eq hv h10
  subst hvv
  exact ⟨.returned v', w', fr, ⟨rfl, grown_of_ext h1 hn, fun k hk => h1.kept k hk (hn k)⟩, h2, h3, h7, h4, h5, fn, by rw [h3]; exact h8, h9⟩
theorem same_of_block {W W' : World} (h : ∀ k, k < W.heap.size → W'.heap[k]? = W.heap[k]?) {p : MemPlace} (hp : p.block < W.heap.size) : W.sameAt W' p := by
  cases p with
  | cell b o => exact World.cell?_of_block (w := W) (h b hp)
  | map b => exact h b hp

section
variable {H : Type} {enc : TypeId × Value → H} {P : Program} {w : World} {T : TypeId → Prop}
theorem trodAll_stays {w' : World} (K : Kids P T) (hsz : ∀ {t e : TypeId}, T t → P.underlying t = some (.slice e) → 0 < P.cellsOf e) {sp : Nat → Bool} : ∀ {ts : List TypeId} {vs : List Value} {ds : List (DataW H)} {ps : List MemPlace}, (∀ t ∈ ts, T t) → DataW.TrodAll enc P w 0 (fun _ => true) true ts vs ds ps →
    (∀ p ∈ ps, w.sameAt w' p) → (∀ p ∈ ps, sp p.block = true) → DataW.TrodAll enc P w' 0 sp true ts vs ds ps
  | [], [], [], _, _, h, _, _ => h
  | t :: ts, v :: vs, d :: ds, _, hT, ⟨p, q, ⟨n, h1⟩, h2, e⟩, hs, hp => by
    subst e
    exact ⟨p, q, ⟨n, DataW.trod_stays K hsz (fun e => by simp at e) (hT t (by simp)) h1 (fun x hx => hs x (by simp [hx])) (fun x hx => hp x (by simp [hx]))⟩, trodAll_stays K hsz (fun t ht => hT t (by simp [ht])) h2 (fun x hx => hs x (by simp [hx])) (fun x hx => hp x (by simp [hx])), rfl⟩
end

/-! ### Rows of the world as objects that are only read -/
/-- A row: where it lies, if anywhere, and its cells. -/
structure ARow where
  at_ : Option (Nat × Nat)
  vs : List Value
def rowsMem (rs : List ARow) : Mem := rs.map fun r => .cells r.vs 1 .ro
def rowsRho (rs : List ARow) : Rho := fun x => (rs[x]?).bind fun r => r.at_.map fun p => ⟨p.1, p.2, r.vs.length, 1⟩
def ARow.Ok (w : World) (r : ARow) : Prop := r.vs.all plain1 = true ∧ ∀ p, r.at_ = some p → ∃ cs el fr, w.heap[p.1]? = some (.cells cs el fr) ∧ p.2 + r.vs.length ≤ cs.size ∧ ∀ i v, r.vs[i]? = some v → cs[p.2 + i]? = some v
theorem rowsRho_some {rs : List ARow} {x : Nat} {p : Place} (h : rowsRho rs x = some p) : ∃ r q, rs[x]? = some r ∧ r.at_ = some q ∧ p = ⟨q.1, q.2, r.vs.length, 1⟩ := by
  unfold rowsRho at h
  cases hr : rs[x]? with
  | none => rw [hr] at h; simp at h
  | some r =>
    rw [hr] at h
    cases ha : r.at_ with
    | none => simp [ha] at h
    | some q => simp [ha] at h; exact ⟨r, q, rfl, ha, h.symm⟩
theorem rows_rel {w : World} {rs : List ARow} (h : ∀ r ∈ rs, r.Ok w) : Rel (rowsRho rs) (rowsMem rs) w := by
  refine ⟨fun x p hx => ?_, fun x p hx => ?_, fun x y p q o o' hx hy hne ho ho' hw ha => ?_⟩
  · obtain ⟨r, q, h1, h2, rfl⟩ := rowsRho_some hx
    obtain ⟨hp, hq⟩ := h r (List.mem_of_getElem? h1)
    obtain ⟨cs, el, fr, g1, g2, g3⟩ := hq q h2
    refine ⟨.cells r.vs 1 .ro, by simp [rowsMem, h1], .inr ⟨cs, el, fr, g1, rfl, g2, Nat.le_refl _, fun i v hi => ⟨v, g3 i v hi, plain1_refl _ (List.all_eq_true.1 hp v (List.mem_of_getElem? hi))⟩, fun e => by simp at e⟩⟩
  · obtain ⟨r, q, h1, h2, rfl⟩ := rowsRho_some hx
    obtain ⟨cs, el, fr, g1, g2, g3⟩ := (h r (List.mem_of_getElem? h1)).2 q h2
    exact (Array.getElem?_eq_some_iff.1 g1).1
  · simp only [rowsMem, List.getElem?_map] at ho
    cases hr : rs[x]? with
    | none => rw [hr] at ho; simp at ho
    | some r => rw [hr] at ho; simp at ho; subst ho; simp [AObj.writable] at hw
theorem rows_wb {rs : List ARow} (k : Nat) : ¬ Wb (rowsRho rs) (rowsMem rs) k := by
  rintro ⟨x, p, o, e, ho, hw, _⟩
  simp only [rowsMem, List.getElem?_map] at ho
  cases hr : rs[x]? with
  | none => rw [hr] at ho; simp at ho
  | some r => rw [hr] at ho; simp at ho; subst ho; simp [AObj.writable] at hw

/-- A slice of numbers that is given: its row, and how it stands in memory as object j. -/
theorem slice_in {H : Type} {enc : TypeId × Value → H} {P : Program} {w : World} {t e : TypeId} {k : IntKind} (ht : P.underlying t = some (.slice e)) (he : P.underlying e = some (.int k)) (hc : P.cellsOf e = 1) {fuel b0 : Nat} {v : Value} {x : DataW H × List MemPlace}
    (hok : Cell.okWide P w .any b0 t v) (h : DataW.trod enc P w 0 (fun _ => true) true fuel t [v] = some x) :
    ∃ (r : ARow) (zs : List Int) (n c : Nat), r.Ok w ∧ zs.length = n ∧ (∀ z ∈ zs, (Lit.int k z).wf = true) ∧ ∀ (rs : List ARow) (j : Nat), rs[j]? = some r → ∃ a, VRel (rowsRho rs) (.slice a n c) v ∧ Given (rowsMem rs) 1 a n c (zs.map (.int k)) := by
  rcases open_ints ht he hc h with ⟨hcs, _⟩ | ⟨a, len, cap, zs, hcs, _, hlc, hcm, hzl, _, hcell, hwf⟩
  · injection hcs with hv _
    subst hv
    exact ⟨⟨none, []⟩, [], 0, 0, ⟨rfl, fun p hp => by simp at hp⟩, rfl, by simp, fun rs j hj => ⟨none, .sliN, ⟨by simp, .inl ⟨rfl, rfl, rfl⟩⟩, .inl ⟨rfl, rfl, rfl⟩⟩⟩
  · injection hcs with hv _
    subst hv
    simp only [if_true] at hzl
    simp only [Cell.okWide, ht, Cell.ok] at hok
    obtain ⟨_, _, _, hspot, row, cells, hshape, _⟩ := hok
    obtain ⟨b, o, sp⟩ := a
    simp only at hspot hshape
    subst hspot
    obtain ⟨cs, el, fr, hheap⟩ : ∃ cs el fr, w.heap[b]? = some (.cells cs el fr) := by
      unfold World.shape? at hshape
      split at hshape
      · rename_i c el fr hh; exact ⟨c, el, fr, hh⟩
      · simp at hshape
    have hcell' : ∀ i, i < zs.length → cs[o + i]? = some (.int k (zs.getD i 0)) := by
      intro i hi
      have := hcell i hi
      rw [add_plain] at this
      simpa [World.cell?, hheap] using this
    have hmx : maxLen < 9223372036854775808 := by decide
    by_cases hcap : cap = 0
    · subst hcap
      have hz0 : zs = [] := List.eq_nil_of_length_eq_zero hzl
      subst hz0
      have hl0 : len = 0 := by omega
      subst hl0
      refine ⟨⟨some (b, 0), []⟩, [], 0, 0, ⟨rfl, fun p hp => ?_⟩, rfl, by simp, fun rs j hj => ⟨some ⟨j, 0, none⟩, ?_, ⟨by simp, .inr ⟨j, 0, [], 1, .ro, rfl, by simp [rowsMem, hj], by decide, rfl, by simp⟩⟩, .inr ⟨Nat.le_refl _, by decide⟩⟩⟩
      · simp at hp; subst hp
        exact ⟨cs, el, fr, hheap, by simp, by simp⟩
      · exact .sli (p := ⟨b, 0, 0, 1⟩) (by simp [rowsRho, hj]) (.inl ⟨by decide, rfl, by omega⟩)
    · have hlast := hcell' (cap - 1) (by omega)
      have hsz := (Array.getElem?_eq_some_iff.1 hlast).1
      refine ⟨⟨some (b, o), zs.map (.int k)⟩, zs.take len, len, cap, ⟨?_, fun p hp => ?_⟩, by simp; omega, fun z hz => hwf z (List.mem_of_mem_take hz), fun rs j hj => ⟨some ⟨j, 0, none⟩, ?_, ⟨by simp; omega, .inr ⟨j, 0, zs.map (.int k), 1, .ro, rfl, by simp [rowsMem, hj], by decide, by simp [List.map_take], by simp; omega⟩⟩, .inr ⟨hlc, by omega⟩⟩⟩
      · rw [List.all_eq_true]; intro v hv
        simp only [List.mem_map] at hv
        obtain ⟨z, _, rfl⟩ := hv; rfl
      · simp at hp; subst hp
        refine ⟨cs, el, fr, hheap, by simp; omega, fun i v hi => ?_⟩
        rw [List.getElem?_map] at hi
        cases hz : zs[i]? with
        | none => rw [hz] at hi; simp at hi
        | some z =>
          rw [hz] at hi; simp at hi; subst hi
          have hlt := (List.getElem?_eq_some_iff.1 hz).1
          have := hcell' i hlt
          rw [List.getD_eq_getElem?_getD, hz] at this
          simpa using this
      · exact .sli (p := ⟨b, o, (zs.map (Value.int k)).length, 1⟩) (by simp [rowsRho, hj]) (.inl ⟨by have : capU = 9223372036854775808 := rfl; omega, rfl, fun _ => rfl⟩)

end Go.Proofs.YtabkcbaknjenmaaAM
