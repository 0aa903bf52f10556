/-
  Part KB5 of the proof: merged texts.
-/
import Derived.Test.YtabkcbaknjenmaaKA3
import Derived.Test.YtabkcbaknjenmaaRows
import Derived.Test.YtabkcbaknjenmaaKB4

/-
  THE NODE LAWS: what is to be shown for functions, printed by a program: the trees that are drawn: forms, types, expressions
-/
set_option linter.unusedVariables false
namespace Go.Proofs.YtabkcbaknjenmaaAM
open Go Go.Proofs
set_option maxRecDepth 100000
set_option maxHeartbeats 4000000
def ann51 : Ann := [([1, 1, 1, 1, 1, 0, 1, 0], [0, 1, 5, 8, 9], [(some 1, [(8, some 22)])])]
def ann78 : Ann := [([1, 1, 1, 1, 1, 0, 1, 0], [0, 1, 5, 10, 11], [(some 1, [(10, some 22)])])]
def ann82 : Ann := [([1, 1, 1, 1, 0, 1, 0], [0, 1, 6, 7, 8], [(some 0, [(7, some 22)])])]
def ann83 : Ann := [([1, 1, 0, 1, 0], [0, 1, 5, 6], [(some 0, [(5, some 22)])])]
def ann11 : Ann := [([1, 1, 1, 1, 1, 1, 0, 1, 0], [2, 3, 4, 8], [(some 2, [])]), ([1, 1, 1, 1, 1, 0, 1, 0], [2, 3, 4, 5, 6], [(some 0, [])])]
theorem w51 {p0 : Nat} {p1 : Int} {M : Mem} {K : Value → Mem → Prop} (h : ∃ (i0 : Int),
 ∃ (M1 : Mem),
 Ret Try.prog 31 [.pointer (some (.mk p0 0 none)), .int .i64 (Int.ofNat 12)] M (.int .i64 i0) M1 ∧
 ∃ (b2 : Bool),
 ∃ (M3 : Mem),
 Ret Try.prog 77 [.pointer (some (.mk p0 0 none)), .int .i64 p1] M1 (.bool b2) M3 ∧
 cnd b2
 (∃ (a4 : Option Addr),
 ∃ (n5 : Nat),
 ∃ (n6 : Nat),
 ∃ (M7 : Mem),
 Ret Try.prog 69 [] M3 (.slice a4 n5 n6) M7 ∧
 ∃ (i8 : Int),
 ∃ (M9 : Mem),
 Ret Try.prog 31 [.pointer (some (.mk p0 0 none)), .int .i64 (Int.ofNat 7)] M7 (.int .i64 i8) M9 ∧
 ∃ (n10 : Nat),
 ∃ (n11 : Nat),
 idxA Try.prog 53 (.slice a4 n5 n6) (.int .i64 i8) = some (.pointer (some (.mk n10 n11 none))) ∧
 ∃ (s12 : ByteArray),
 rdVar Try.prog M9 9 n10 n11 = some (.string s12) ∧
 ∃ (i13 : Int),
 ∃ (M14 : Mem),
 Ret Try.prog 55
 [.pointer (some (.mk p0 0 none)), .int .i64 (Int.ofNat 14), .string s12, .string (ByteArray.mk #[]),
 .slice none 0 0]
 M9 (.int .i64 i13) M14 ∧
 K (.int .i64 i13) M14)
 (cnd (!leF (Int.ofNat 5) i0)
 (∃ (a15 : Option Addr),
 ∃ (n16 : Nat),
 ∃ (n17 : Nat),
 ∃ (M18 : Mem),
 Ret Try.prog 69 [] M3 (.slice a15 n16 n17) M18 ∧
 ∃ (i19 : Int),
 ∃ (M20 : Mem),
 Ret Try.prog 31 [.pointer (some (.mk p0 0 none)), .int .i64 (Int.ofNat 7)] M18 (.int .i64 i19) M20 ∧
 ∃ (n21 : Nat),
 ∃ (n22 : Nat),
 idxA Try.prog 53 (.slice a15 n16 n17) (.int .i64 i19) = some (.pointer (some (.mk n21 n22 none))) ∧
 ∃ (s23 : ByteArray),
 rdVar Try.prog M20 9 n21 n22 = some (.string s23) ∧
 ∃ (i24 : Int),
 ∃ (M25 : Mem),
 Ret Try.prog 55
 [.pointer (some (.mk p0 0 none)), .int .i64 (Int.ofNat 14), .string s23, .string (ByteArray.mk #[]),
 .slice none 0 0]
 M20 (.int .i64 i24) M25 ∧
 K (.int .i64 i24) M25)
 (cnd (eqF i0 (Int.ofNat 5))
 (∃ (s26 : ByteArray),
 ∃ (M27 : Mem),
 Ret Try.prog 50 [.pointer (some (.mk p0 0 none))] M3 (.string s26) M27 ∧
 ∃ (M28 : Mem),
 Ret Try.prog 52 [.pointer (some (.mk p0 0 none)), .string s26] M27 (undef) M28 ∧
 ∃ (i29 : Int),
 ∃ (M30 : Mem),
 Ret Try.prog 78 [.pointer (some (.mk p0 0 none)), .int .i64 (wrapF .i64 (Int.sub p1 (Int.ofNat 1)))] M28
 (.int .i64 i29) M30 ∧
 ∃ (M31 : Mem),
 Ret Try.prog 54 [.pointer (some (.mk p0 0 none))] M30 (undef) M31 ∧
 ∃ (i32 : Int),
 ∃ (M33 : Mem),
 Ret Try.prog 55
 [.pointer (some (.mk p0 0 none)), .int .i64 (Int.ofNat 15), .string (ByteArray.mk #[]), .string s26,
 .slice (some (.mk (List.length M31) 0 none)) 1 1]
 (M31 ++ [AObj.cells [.int .i64 i29] 1 Mode.live]) (.int .i64 i32) M33 ∧
 K (.int .i64 i32) M33)
 (cnd (eqF i0 (Int.ofNat 6))
 (∃ (s34 : ByteArray),
 ∃ (M35 : Mem),
 Ret Try.prog 50 [.pointer (some (.mk p0 0 none))] M3 (.string s34) M35 ∧
 ∃ (M36 : Mem),
 Ret Try.prog 52 [.pointer (some (.mk p0 0 none)), .string s34] M35 (undef) M36 ∧
 ∃ (i37 : Int),
 ∃ (M38 : Mem),
 Ret Try.prog 78 [.pointer (some (.mk p0 0 none)), .int .i64 (wrapF .i64 (Int.sub p1 (Int.ofNat 1)))] M36
 (.int .i64 i37) M38 ∧
 ∃ (M39 : Mem),
 Ret Try.prog 54 [.pointer (some (.mk p0 0 none))] M38 (undef) M39 ∧
 ∃ (i40 : Int),
 ∃ (M41 : Mem),
 Ret Try.prog 55
 [.pointer (some (.mk p0 0 none)), .int .i64 (Int.ofNat 15), .string (ByteArray.mk #[]), .string s34,
 .slice (some (.mk (List.length M39) 0 none)) 1 1]
 (M39 ++ [AObj.cells [.int .i64 i37] 1 Mode.live]) (.int .i64 i40) M41 ∧
 K (.int .i64 i40) M41)
 (cnd (eqF i0 (Int.ofNat 7))
 (∃ (s42 : ByteArray),
 ∃ (M43 : Mem),
 Ret Try.prog 50 [.pointer (some (.mk p0 0 none))] M3 (.string s42) M43 ∧
 ∃ (M44 : Mem),
 Ret Try.prog 52 [.pointer (some (.mk p0 0 none)), .string s42] M43 (undef) M44 ∧
 ∃ (i45 : Int),
 ∃ (M46 : Mem),
 Ret Try.prog 78 [.pointer (some (.mk p0 0 none)), .int .i64 (wrapF .i64 (Int.sub p1 (Int.ofNat 1)))] M44
 (.int .i64 i45) M46 ∧
 ∃ (M47 : Mem),
 Ret Try.prog 54 [.pointer (some (.mk p0 0 none))] M46 (undef) M47 ∧
 ∃ (i48 : Int),
 ∃ (M49 : Mem),
 Ret Try.prog 55
 [.pointer (some (.mk p0 0 none)), .int .i64 (Int.ofNat 15), .string (ByteArray.mk #[]), .string s42,
 .slice (some (.mk (List.length M47) 0 none)) 1 1]
 (M47 ++ [AObj.cells [.int .i64 i45] 1 Mode.live]) (.int .i64 i48) M49 ∧
 K (.int .i64 i48) M49)
 (cnd (eqF i0 (Int.ofNat 8))
 (∃ (i50 : Int),
 ∃ (M51 : Mem),
 Ret Try.prog 79 [.pointer (some (.mk p0 0 none)), .int .i64 p1] M3 (.int .i64 i50) M51 ∧ K (.int .i64 i50) M51)
 (cnd (eqF i0 (Int.ofNat 9))
 (∃ (i52 : Int),
 ∃ (M53 : Mem),
 Ret Try.prog 79 [.pointer (some (.mk p0 0 none)), .int .i64 p1] M3 (.int .i64 i52) M53 ∧ K (.int .i64 i52) M53)
 (∃ (i54 : Int),
 ∃ (M55 : Mem),
 Ret Try.prog 31 [.pointer (some (.mk p0 0 none)), .int .i64 (Int.ofNat 2)] M3 (.int .i64 i54) M55 ∧
 ∀ (t56 : List Value),
 TIn 75
 [(0, .pointer (some (.mk p0 0 none))), (1, .int .i64 p1), (5, .int .i64 i0), (8, .slice none 0 0),
 (9, .int .i64 (wrapF .i64 (Int.add (Int.ofNat 2) i54)))]
 t56 →
 ∃ (a57 : Option Addr),
 ∃ (n58 : Nat),
 ∃ (n59 : Nat),
 ∃ (M60 : Mem),
 LpT Try.prog (Env.fn 51) [1, 1, 1, 1, 1, 0, 1, 0] t56 [] M55 false (.exit 1) [(8, .slice a57 n58 n59)] M60 ∧
 ∀ (w61 : Nat → Value),
 ∃ (i62 : Int),
 binA Try.prog BinOp.rem 3 (Operand.tmp 69) (Operand.const (.int .i64 (Int.ofNat 2))) (.int .i64 i0)
 (.int .i64 (Int.ofNat 2)) =
 some (Value.int .i64 i62) ∧
 ∃ (n63 : Nat),
 ∃ (n64 : Nat),
 idxA Try.prog 22 (.slice (some (.mk (List.length M60) 0 none)) 2 2) (.int .i64 i62) =
 some (.pointer (some (.mk n63 n64 none))) ∧
 ∃ (i65 : Int),
 rdVar Try.prog (M60 ++ [AObj.cells [.int .i64 (Int.ofNat 17), .int .i64 (Int.ofNat 18)] 1 Mode.live]) 3
 n63 n64 =
 some (Value.int .i64 i65) ∧
 ∃ (i66 : Int),
 ∃ (M67 : Mem),
 Ret Try.prog 55
 [.pointer (some (.mk p0 0 none)), .int .i64 i65, .string (ByteArray.mk #[]),
 .string (ByteArray.mk #[]), .slice a57 n58 n59]
 (M60 ++ [AObj.cells [.int .i64 (Int.ofNat 17), .int .i64 (Int.ofNat 18)] 1 Mode.live])
 (.int .i64 i66) M67 ∧
 K (.int .i64 i66) M67)))))))) :
 Held (wpRet Try.prog 51 true ann51 [.pointer (some (.mk p0 0 none)), .int .i64 p1] M K) := held_of (by kernel_rfl) h
theorem loop51_0 {ut0 ut0o : Nat} {ut1 ut5 : Int} {d : List ADef} {rc : Bool} (Inv : Nat → Option Addr → Nat → Nat → Int → Mem → Prop) (R0 : Option Addr → Nat → Nat → Mem → Prop)
 (step : ∀ (n : Nat) (t8 : Option Addr) (t8n t8c : Nat) (t9 : Int) (M : Mem), Inv n t8 t8n t8c t9 M →
 cnd (!leF t9 (Int.ofNat 0))
 (∃ (i0 : Int),
 ∃ (M1 : Mem),
 Ret Try.prog 51 [.pointer (some (.mk ut0 ut0o none)), .int .i64 (wrapF .i64 (Int.sub ut1 (Int.ofNat 1)))] M (.int .i64 i0) M1 ∧
 ∃ (a2 : Option Addr),
 ∃ (n3 : Nat),
 ∃ (n4 : Nat),
 ∃ (M5 : Mem),
 appendA Try.prog (M1 ++ [AObj.cells [.int .i64 i0] 1 Mode.live]) 22 22 (.slice t8 t8n t8c) (.slice (some (.mk (List.length M1) 0 none)) 1 1) =
 some (Value.slice a2 n3 n4, M5) ∧
 ∃ (n6 : Nat), n6 < n ∧ Inv n6 a2 n3 n4 (wrapF .i64 (Int.sub t9 (Int.ofNat 1))) M5)
 (R0 t8 t8n t8c M) )
 {n : Nat} {t8 : Option Addr} {t8n t8c : Nat} {t9 : Int} {M : Mem} (h0 : Inv n t8 t8n t8c t9 M) {t0 : List Value} (hT : TIn 75 [(0, .pointer (some (.mk ut0 ut0o none))), (1, .int .i64 ut1), (5, .int .i64 ut5), (8, .slice t8 t8n t8c), (9, .int .i64 t9)] t0) :
 (∃ (ot8 : Option Addr) (ot8n ot8c : Nat) (M' : Mem), LpT Try.prog (Env.fn 51) [1, 1, 1, 1, 1, 0, 1, 0] t0 d M rc (.exit 1) [(8, .slice ot8 ot8n ot8c)] M' ∧ R0 ot8 ot8n ot8c M') := by
 rcases loopT (P := Try.prog) (E := (Env.fn 51)) (sym := true) (ann := ann51) (p := [1, 1, 1, 1, 1, 0, 1, 0]) (stepC (codeOf Try.prog 51 [1, 1, 1, 1, 1, 0, 1, 0]) 0) (by kernel_rfl) (by kernel_rfl) [(0, .pointer (some (.mk ut0 ut0o none))), (1, .int .i64 ut1), (5, .int .i64 ut5)] [8, 9] (by kernel_rfl) (fun n xs M => match xs with | [.slice t8 t8n t8c, .int .i64 t9] => Inv n t8 t8n t8c t9 M | _ => False) [((.exit 1), [8], fun xs M => match xs with | [.slice ot8 ot8n ot8c] => R0 ot8 ot8n ot8c M | _ => False)] (fun n xs M h uu => by split at h <;> first | exact h.elim | exact (held_of (by kernel_rfl) (step n _ _ _ _ M h)).ok) (xs := [.slice t8 t8n t8c, .int .i64 t9]) hT rfl h0 with ⟨_, _, h, g⟩
 · split at g <;> first | exact ⟨_, _, _, _, h, g⟩ | exact g.elim

theorem w53 {p0 : Nat} {p1 : Int} {M : Mem} {K : Value → Mem → Prop} (h : ∃ (i0 : Int),
 ∃ (M1 : Mem),
 Ret Try.prog 31 [.pointer (some (.mk p0 0 none)), .int .i64 (Int.ofNat 24)] M (.int .i64 i0) M1 ∧
 ∃ (b2 : Bool),
 ∃ (M3 : Mem),
 Ret Try.prog 77 [.pointer (some (.mk p0 0 none)), .int .i64 p1] M1 (.bool b2) M3 ∧
 cnd b2
 (∃ (i4 : Int),
 binA Try.prog BinOp.rem 3 (Operand.tmp 21) (Operand.const (.int .i64 (Int.ofNat 3))) (.int .i64 i0) (.int .i64 (Int.ofNat 3)) =
 some (Value.int .i64 i4) ∧
 cnd (eqF i4 (Int.ofNat 0))
 (∃ (i5 : Int), ∃ (M6 : Mem), Ret Try.prog 80 [.pointer (some (.mk p0 0 none))] M3 (.int .i64 i5) M6 ∧ K (.int .i64 i5) M6)
 (∃ (s7 : ByteArray),
 ∃ (M8 : Mem),
 Ret Try.prog 81 [.pointer (some (.mk p0 0 none)), .bool true] M3 (.string s7) M8 ∧
 ∃ (i9 : Int),
 ∃ (M10 : Mem),
 Ret Try.prog 55
 [.pointer (some (.mk p0 0 none)), .int .i64 (Int.ofNat 5), .string s7, .string (ByteArray.mk #[]), .slice none 0 0] M8
 (.int .i64 i9) M10 ∧
 K (.int .i64 i9) M10))
 (cnd (!leF (Int.ofNat 7) i0)
 (∃ (i11 : Int),
 binA Try.prog BinOp.rem 3 (Operand.tmp 21) (Operand.const (.int .i64 (Int.ofNat 3))) (.int .i64 i0) (.int .i64 (Int.ofNat 3)) =
 some (Value.int .i64 i11) ∧
 cnd (eqF i11 (Int.ofNat 0))
 (∃ (i12 : Int), ∃ (M13 : Mem), Ret Try.prog 80 [.pointer (some (.mk p0 0 none))] M3 (.int .i64 i12) M13 ∧ K (.int .i64 i12) M13)
 (∃ (s14 : ByteArray),
 ∃ (M15 : Mem),
 Ret Try.prog 81 [.pointer (some (.mk p0 0 none)), .bool true] M3 (.string s14) M15 ∧
 ∃ (i16 : Int),
 ∃ (M17 : Mem),
 Ret Try.prog 55
 [.pointer (some (.mk p0 0 none)), .int .i64 (Int.ofNat 5), .string s14, .string (ByteArray.mk #[]), .slice none 0 0]
 M15 (.int .i64 i16) M17 ∧
 K (.int .i64 i16) M17))
 (cnd (!leF (Int.ofNat 12) i0)
 (∃ (i18 : Int),
 ∃ (M19 : Mem),
 Ret Try.prog 82 [.pointer (some (.mk p0 0 none)), .int .i64 p1] M3 (.int .i64 i18) M19 ∧ K (.int .i64 i18) M19)
 (cnd (!leF (Int.ofNat 15) i0)
 (∃ (s20 : ByteArray),
 ∃ (M21 : Mem),
 Ret Try.prog 50 [.pointer (some (.mk p0 0 none))] M3 (.string s20) M21 ∧
 ∃ (i22 : Int),
 ∃ (M23 : Mem),
 Ret Try.prog 53 [.pointer (some (.mk p0 0 none)), .int .i64 (wrapF .i64 (Int.sub p1 (Int.ofNat 1)))] M21 (.int .i64 i22)
 M23 ∧
 ∃ (M24 : Mem),
 Ret Try.prog 52 [.pointer (some (.mk p0 0 none)), .string s20] M23 (undef) M24 ∧
 ∃ (i25 : Int),
 ∃ (M26 : Mem),
 Ret Try.prog 53 [.pointer (some (.mk p0 0 none)), .int .i64 (wrapF .i64 (Int.sub p1 (Int.ofNat 1)))] M24
 (.int .i64 i25) M26 ∧
 ∃ (M27 : Mem),
 Ret Try.prog 54 [.pointer (some (.mk p0 0 none))] M26 (undef) M27 ∧
 ∃ (i28 : Int),
 ∃ (M29 : Mem),
 Ret Try.prog 55
 [.pointer (some (.mk p0 0 none)), .int .i64 (Int.ofNat 7), .string (ByteArray.mk #[]), .string s20,
 .slice (some (.mk (List.length M27) 0 none)) 2 2]
 (M27 ++ [AObj.cells [.int .i64 i22, .int .i64 i25] 1 Mode.live]) (.int .i64 i28) M29 ∧
 K (.int .i64 i28) M29)
 (cnd (!leF (Int.ofNat 18) i0)
 (∃ (i30 : Int),
 ∃ (M31 : Mem),
 Ret Try.prog 53 [.pointer (some (.mk p0 0 none)), .int .i64 (wrapF .i64 (Int.sub p1 (Int.ofNat 1)))] M3 (.int .i64 i30)
 M31 ∧
 ∃ (i32 : Int),
 ∃ (M33 : Mem),
 Ret Try.prog 53 [.pointer (some (.mk p0 0 none)), .int .i64 (wrapF .i64 (Int.sub p1 (Int.ofNat 1)))] M31
 (.int .i64 i32) M33 ∧
 ∃ (i34 : Int),
 ∃ (M35 : Mem),
 Ret Try.prog 53 [.pointer (some (.mk p0 0 none)), .int .i64 (wrapF .i64 (Int.sub p1 (Int.ofNat 1)))] M33
 (.int .i64 i34) M35 ∧
 ∃ (i36 : Int),
 ∃ (M37 : Mem),
 Ret Try.prog 55
 [.pointer (some (.mk p0 0 none)), .int .i64 (Int.ofNat 8), .string (ByteArray.mk #[]),
 .string (ByteArray.mk #[]), .slice (some (.mk (List.length M35) 0 none)) 3 3]
 (M35 ++ [AObj.cells [.int .i64 i30, .int .i64 i32, .int .i64 i34] 1 Mode.live])
 (.int .i64 i36) M37 ∧
 K (.int .i64 i36) M37)
 (cnd (!leF (Int.ofNat 20) i0)
 (∃ (i38 : Int),
 ∃ (M39 : Mem),
 Ret Try.prog 53 [.pointer (some (.mk p0 0 none)), .int .i64 (wrapF .i64 (Int.sub p1 (Int.ofNat 1)))] M3 (.int .i64 i38)
 M39 ∧
 ∃ (i40 : Int),
 ∃ (M41 : Mem),
 Ret Try.prog 53 [.pointer (some (.mk p0 0 none)), .int .i64 (wrapF .i64 (Int.sub p1 (Int.ofNat 1)))] M39
 (.int .i64 i40) M41 ∧
 ∃ (i42 : Int),
 ∃ (M43 : Mem),
 Ret Try.prog 55
 [.pointer (some (.mk p0 0 none)), .int .i64 (Int.ofNat 11), .string (ByteArray.mk #[]), .string (ByteArray.mk #[]),
 .slice (some (.mk (List.length M41) 0 none)) 2 2]
 (M41 ++ [AObj.cells [.int .i64 i38, .int .i64 i40] 1 Mode.live]) (.int .i64 i42) M43 ∧
 K (.int .i64 i42) M43)
 (cnd (eqF i0 (Int.ofNat 20))
 (∃ (i44 : Int),
 ∃ (M45 : Mem),
 Ret Try.prog 53 [.pointer (some (.mk p0 0 none)), .int .i64 (wrapF .i64 (Int.sub p1 (Int.ofNat 1)))] M3 (.int .i64 i44)
 M45 ∧
 ∃ (i46 : Int),
 ∃ (M47 : Mem),
 Ret Try.prog 55
 [.pointer (some (.mk p0 0 none)), .int .i64 (Int.ofNat 9), .string (ByteArray.mk #[]), .string (ByteArray.mk #[]),
 .slice (some (.mk (List.length M45) 0 none)) 1 1]
 (M45 ++ [AObj.cells [.int .i64 i44] 1 Mode.live]) (.int .i64 i46) M47 ∧
 K (.int .i64 i46) M47)
 (cnd (eqF i0 (Int.ofNat 21))
 (∃ (i48 : Int),
 ∃ (M49 : Mem),
 Ret Try.prog 83 [.pointer (some (.mk p0 0 none)), .int .i64 p1] M3 (.int .i64 i48) M49 ∧ K (.int .i64 i48) M49)
 (∃ (i50 : Int),
 ∃ (M51 : Mem),
 Ret Try.prog 32 [.pointer (some (.mk p0 0 none)), .int .i64 (Int.ofNat 6), .string (ByteArray.mk #[]), .int .i64 p1] M3
 (.int .i64 i50) M51 ∧
 K (.int .i64 i50) M51))))))))) :
 Held (wpRet Try.prog 53 true [] [.pointer (some (.mk p0 0 none)), .int .i64 p1] M K) := held_of (by kernel_rfl) h
theorem w78 {p0 : Nat} {p1 : Int} {M : Mem} {K : Value → Mem → Prop} (h : ∃ (i0 : Int),
 ∃ (M1 : Mem),
 Ret Try.prog 31 [.pointer (some (.mk p0 0 none)), .int .i64 (Int.ofNat 14)] M (.int .i64 i0) M1 ∧
 ∃ (b2 : Bool),
 ∃ (M3 : Mem),
 Ret Try.prog 77 [.pointer (some (.mk p0 0 none)), .int .i64 p1] M1 (.bool b2) M3 ∧
 cnd b2
 (cnd (!leF i0 (Int.ofNat 7))
 (∃ (i4 : Int),
 binA Try.prog BinOp.rem 3 (Operand.tmp 21) (Operand.const (.int .i64 (Int.ofNat 8))) (.int .i64 i0) (.int .i64 (Int.ofNat 8)) =
 some (Value.int .i64 i4) ∧
 cnd (eqF i4 (Int.ofNat 0))
 (∃ (i5 : Int),
 ∃ (M6 : Mem),
 Ret Try.prog 31 [.pointer (some (.mk p0 0 none)), .int .i64 (Int.ofNat 2)]
 (M3 ++ [AObj.cells [.int .i64 (Int.ofNat 19), .int .i64 (Int.ofNat 20)] 1 Mode.live]) (.int .i64 i5) M6 ∧
 ∃ (n7 : Nat),
 ∃ (n8 : Nat),
 idxA Try.prog 22 (.slice (some (.mk (List.length M3) 0 none)) 2 2) (.int .i64 i5) = some (.pointer (some (.mk n7 n8 none))) ∧
 ∃ (i9 : Int),
 rdVar Try.prog M6 3 n7 n8 = some (.int .i64 i9) ∧
 ∃ (i10 : Int),
 ∃ (M11 : Mem),
 Ret Try.prog 55
 [.pointer (some (.mk p0 0 none)), .int .i64 i9, .string (ByteArray.mk #[]), .string (ByteArray.mk #[]),
 .slice none 0 0]
 M6 (.int .i64 i10) M11 ∧
 K (.int .i64 i10) M11)
 (cnd (eqF i4 (Int.ofNat 1))
 (∃ (a12 : Option Addr),
 ∃ (n13 : Nat),
 ∃ (n14 : Nat),
 ∃ (M15 : Mem),
 Ret Try.prog 69 [] M3 (.slice a12 n13 n14) M15 ∧
 ∃ (i16 : Int),
 ∃ (M17 : Mem),
 Ret Try.prog 31 [.pointer (some (.mk p0 0 none)), .int .i64 (Int.ofNat 6)] M15 (.int .i64 i16) M17 ∧
 ∃ (n18 : Nat),
 ∃ (n19 : Nat),
 idxA Try.prog 53 (.slice a12 n13 n14) (.int .i64 (wrapF .i64 (Int.add (Int.ofNat 1) i16))) =
 some (.pointer (some (.mk n18 n19 none))) ∧
 ∃ (s20 : ByteArray),
 rdVar Try.prog M17 9 n18 n19 = some (.string s20) ∧
 ∃ (i21 : Int),
 ∃ (M22 : Mem),
 Ret Try.prog 97 [.pointer (some (.mk p0 0 none)), .int .i64 (wrapF .i64 (Int.sub p1 (Int.ofNat 1)))] M17
 (.int .i64 i21) M22 ∧
 ∃ (i23 : Int),
 ∃ (M24 : Mem),
 Ret Try.prog 55
 [.pointer (some (.mk p0 0 none)), .int .i64 (Int.ofNat 21), .string s20,
 .string (ByteArray.mk #[]), .slice (some (.mk (List.length M22) 0 none)) 1 1]
 (M22 ++ [AObj.cells [.int .i64 i21] 1 Mode.live]) (.int .i64 i23) M24 ∧
 K (.int .i64 i23) M24)
 (cnd (eqF i4 (Int.ofNat 2))
 (∃ (a25 : Option Addr),
 ∃ (n26 : Nat),
 ∃ (n27 : Nat),
 ∃ (M28 : Mem),
 Ret Try.prog 69 [] M3 (.slice a25 n26 n27) M28 ∧
 ∃ (i29 : Int),
 ∃ (M30 : Mem),
 Ret Try.prog 31 [.pointer (some (.mk p0 0 none)), .int .i64 (Int.ofNat 6)] M28 (.int .i64 i29) M30 ∧
 ∃ (n31 : Nat),
 ∃ (n32 : Nat),
 idxA Try.prog 53 (.slice a25 n26 n27) (.int .i64 (wrapF .i64 (Int.add (Int.ofNat 1) i29))) =
 some (.pointer (some (.mk n31 n32 none))) ∧
 ∃ (s33 : ByteArray),
 rdVar Try.prog M30 9 n31 n32 = some (.string s33) ∧
 ∃ (i34 : Int),
 ∃ (M35 : Mem),
 Ret Try.prog 97 [.pointer (some (.mk p0 0 none)), .int .i64 (wrapF .i64 (Int.sub p1 (Int.ofNat 1)))] M30
 (.int .i64 i34) M35 ∧
 ∃ (i36 : Int),
 ∃ (M37 : Mem),
 Ret Try.prog 55
 [.pointer (some (.mk p0 0 none)), .int .i64 (Int.ofNat 21), .string s33,
 .string (ByteArray.mk #[]), .slice (some (.mk (List.length M35) 0 none)) 1 1]
 (M35 ++ [AObj.cells [.int .i64 i34] 1 Mode.live]) (.int .i64 i36) M37 ∧
 K (.int .i64 i36) M37)
 (cnd (eqF i4 (Int.ofNat 3))
 (∃ (i38 : Int),
 ∃ (M39 : Mem),
 Ret Try.prog 98 [.pointer (some (.mk p0 0 none)), .int .i64 (wrapF .i64 (Int.sub p1 (Int.ofNat 1)))] M3
 (.int .i64 i38) M39 ∧
 ∃ (n40 : Nat),
 ∃ (n41 : Nat),
 idxA Try.prog 22 (.slice (some (.mk (List.length M39) 0 none)) 3 3) (.int .i64 (wrapF .i64 (Int.sub i4 (Int.ofNat 3)))) =
 some (.pointer (some (.mk n40 n41 none))) ∧
 ∃ (i42 : Int),
 rdVar Try.prog
 (M39 ++
 [AObj.cells [.int .i64 (Int.ofNat 22), .int .i64 (Int.ofNat 23), .int .i64 (Int.ofNat 24)] 1 Mode.live])
 3 n40 n41 =
 some (Value.int .i64 i42) ∧
 ∃ (i43 : Int),
 ∃ (M44 : Mem),
 Ret Try.prog 98 [.pointer (some (.mk p0 0 none)), .int .i64 (wrapF .i64 (Int.sub p1 (Int.ofNat 1)))]
 (M39 ++
 [AObj.cells [.int .i64 (Int.ofNat 22), .int .i64 (Int.ofNat 23), .int .i64 (Int.ofNat 24)] 1
 Mode.live])
 (.int .i64 i43) M44 ∧
 ∃ (i45 : Int),
 ∃ (M46 : Mem),
 Ret Try.prog 55
 [.pointer (some (.mk p0 0 none)), .int .i64 i42, .string (ByteArray.mk #[]),
 .string (ByteArray.mk #[]), .slice (some (.mk (List.length M44) 0 none)) 2 2]
 (M44 ++ [AObj.cells [.int .i64 i38, .int .i64 i43] 1 Mode.live]) (.int .i64 i45) M46 ∧
 (((List.length M39 <
 List.length
 (M39 ++
 [AObj.cells
 [.int .i64 (Int.ofNat 22), .int .i64 (Int.ofNat 23), .int .i64 (Int.ofNat 24)] 1
 Mode.live]) →
 M44[List.length M39]? =
 (M39 ++
 [AObj.cells
 [.int .i64 (Int.ofNat 22), .int .i64 (Int.ofNat 23), .int .i64 (Int.ofNat 24)] 1
 Mode.live])[List.length M39]?) ∧
 True) ∧
 ((n40 <
 List.length
 (M39 ++
 [AObj.cells
 [.int .i64 (Int.ofNat 22), .int .i64 (Int.ofNat 23), .int .i64 (Int.ofNat 24)]
 1 Mode.live]) →
 M44[n40]? =
 (M39 ++
 [AObj.cells
 [.int .i64 (Int.ofNat 22), .int .i64 (Int.ofNat 23), .int .i64 (Int.ofNat 24)]
 1 Mode.live])[n40]?) ∧
 True) ∧
 True) ∧
 K (.int .i64 i45) M46)
 (cnd (eqF i4 (Int.ofNat 4))
 (∃ (i55 : Int),
 ∃ (M56 : Mem),
 Ret Try.prog 98 [.pointer (some (.mk p0 0 none)), .int .i64 (wrapF .i64 (Int.sub p1 (Int.ofNat 1)))] M3
 (.int .i64 i55) M56 ∧
 ∃ (n57 : Nat),
 ∃ (n58 : Nat),
 idxA Try.prog 22 (.slice (some (.mk (List.length M56) 0 none)) 3 3) (.int .i64 (wrapF .i64 (Int.sub i4 (Int.ofNat 3)))) =
 some (.pointer (some (.mk n57 n58 none))) ∧
 ∃ (i59 : Int),
 rdVar Try.prog
 (M56 ++
 [AObj.cells [.int .i64 (Int.ofNat 22), .int .i64 (Int.ofNat 23), .int .i64 (Int.ofNat 24)] 1
 Mode.live])
 3 n57 n58 =
 some (Value.int .i64 i59) ∧
 ∃ (i60 : Int),
 ∃ (M61 : Mem),
 Ret Try.prog 98 [.pointer (some (.mk p0 0 none)), .int .i64 (wrapF .i64 (Int.sub p1 (Int.ofNat 1)))]
 (M56 ++
 [AObj.cells [.int .i64 (Int.ofNat 22), .int .i64 (Int.ofNat 23), .int .i64 (Int.ofNat 24)] 1
 Mode.live])
 (.int .i64 i60) M61 ∧
 ∃ (i62 : Int),
 ∃ (M63 : Mem),
 Ret Try.prog 55
 [.pointer (some (.mk p0 0 none)), .int .i64 i59, .string (ByteArray.mk #[]),
 .string (ByteArray.mk #[]), .slice (some (.mk (List.length M61) 0 none)) 2 2]
 (M61 ++ [AObj.cells [.int .i64 i55, .int .i64 i60] 1 Mode.live]) (.int .i64 i62) M63 ∧
 (((List.length M56 <
 List.length
 (M56 ++
 [AObj.cells
 [.int .i64 (Int.ofNat 22), .int .i64 (Int.ofNat 23), .int .i64 (Int.ofNat 24)]
 1 Mode.live]) →
 M61[List.length M56]? =
 (M56 ++
 [AObj.cells
 [.int .i64 (Int.ofNat 22), .int .i64 (Int.ofNat 23), .int .i64 (Int.ofNat 24)]
 1 Mode.live])[List.length M56]?) ∧
 True) ∧
 ((n57 <
 List.length
 (M56 ++
 [AObj.cells
 [.int .i64 (Int.ofNat 22), .int .i64 (Int.ofNat 23),
 .int .i64 (Int.ofNat 24)]
 1 Mode.live]) →
 M61[n57]? =
 (M56 ++
 [AObj.cells
 [.int .i64 (Int.ofNat 22), .int .i64 (Int.ofNat 23),
 .int .i64 (Int.ofNat 24)]
 1 Mode.live])[n57]?) ∧
 True) ∧
 True) ∧
 K (.int .i64 i62) M63)
 (cnd (eqF i4 (Int.ofNat 5))
 (∃ (i72 : Int),
 ∃ (M73 : Mem),
 Ret Try.prog 98 [.pointer (some (.mk p0 0 none)), .int .i64 (wrapF .i64 (Int.sub p1 (Int.ofNat 1)))] M3
 (.int .i64 i72) M73 ∧
 ∃ (n74 : Nat),
 ∃ (n75 : Nat),
 idxA Try.prog 22 (.slice (some (.mk (List.length M73) 0 none)) 3 3)
 (.int .i64 (wrapF .i64 (Int.sub i4 (Int.ofNat 3)))) =
 some (.pointer (some (.mk n74 n75 none))) ∧
 ∃ (i76 : Int),
 rdVar Try.prog
 (M73 ++
 [AObj.cells [.int .i64 (Int.ofNat 22), .int .i64 (Int.ofNat 23), .int .i64 (Int.ofNat 24)] 1
 Mode.live])
 3 n74 n75 =
 some (Value.int .i64 i76) ∧
 ∃ (i77 : Int),
 ∃ (M78 : Mem),
 Ret Try.prog 98 [.pointer (some (.mk p0 0 none)), .int .i64 (wrapF .i64 (Int.sub p1 (Int.ofNat 1)))]
 (M73 ++
 [AObj.cells [.int .i64 (Int.ofNat 22), .int .i64 (Int.ofNat 23), .int .i64 (Int.ofNat 24)] 1
 Mode.live])
 (.int .i64 i77) M78 ∧
 ∃ (i79 : Int),
 ∃ (M80 : Mem),
 Ret Try.prog 55
 [.pointer (some (.mk p0 0 none)), .int .i64 i76, .string (ByteArray.mk #[]),
 .string (ByteArray.mk #[]), .slice (some (.mk (List.length M78) 0 none)) 2 2]
 (M78 ++ [AObj.cells [.int .i64 i72, .int .i64 i77] 1 Mode.live]) (.int .i64 i79) M80 ∧
 (((List.length M73 <
 List.length
 (M73 ++
 [AObj.cells
 [.int .i64 (Int.ofNat 22), .int .i64 (Int.ofNat 23),
 .int .i64 (Int.ofNat 24)]
 1 Mode.live]) →
 M78[List.length M73]? =
 (M73 ++
 [AObj.cells
 [.int .i64 (Int.ofNat 22), .int .i64 (Int.ofNat 23),
 .int .i64 (Int.ofNat 24)]
 1 Mode.live])[List.length M73]?) ∧
 True) ∧
 ((n74 <
 List.length
 (M73 ++
 [AObj.cells
 [.int .i64 (Int.ofNat 22), .int .i64 (Int.ofNat 23),
 .int .i64 (Int.ofNat 24)]
 1 Mode.live]) →
 M78[n74]? =
 (M73 ++
 [AObj.cells
 [.int .i64 (Int.ofNat 22), .int .i64 (Int.ofNat 23),
 .int .i64 (Int.ofNat 24)]
 1 Mode.live])[n74]?) ∧
 True) ∧
 True) ∧
 K (.int .i64 i79) M80)
 (cnd (eqF i4 (Int.ofNat 6))
 (∃ (i89 : Int),
 ∃ (M90 : Mem),
 Ret Try.prog 97 [.pointer (some (.mk p0 0 none)), .int .i64 (wrapF .i64 (Int.sub p1 (Int.ofNat 1)))] M3
 (.int .i64 i89) M90 ∧
 ∃ (n91 : Nat),
 ∃ (n92 : Nat),
 idxA Try.prog 22 (.slice (some (.mk (List.length M90) 0 none)) 2 2)
 (.int .i64 (wrapF .i64 (Int.sub i4 (Int.ofNat 6)))) =
 some (.pointer (some (.mk n91 n92 none))) ∧
 ∃ (i93 : Int),
 rdVar Try.prog (M90 ++ [AObj.cells [.int .i64 (Int.ofNat 25), .int .i64 (Int.ofNat 26)] 1 Mode.live]) 3 n91 n92 =
 some (Value.int .i64 i93) ∧
 ∃ (i94 : Int),
 ∃ (M95 : Mem),
 Ret Try.prog 97 [.pointer (some (.mk p0 0 none)), .int .i64 (wrapF .i64 (Int.sub p1 (Int.ofNat 1)))]
 (M90 ++ [AObj.cells [.int .i64 (Int.ofNat 25), .int .i64 (Int.ofNat 26)] 1 Mode.live])
 (.int .i64 i94) M95 ∧
 ∃ (i96 : Int),
 ∃ (M97 : Mem),
 Ret Try.prog 55
 [.pointer (some (.mk p0 0 none)), .int .i64 i93, .string (ByteArray.mk #[]),
 .string (ByteArray.mk #[]), .slice (some (.mk (List.length M95) 0 none)) 2 2]
 (M95 ++ [AObj.cells [.int .i64 i89, .int .i64 i94] 1 Mode.live]) (.int .i64 i96) M97 ∧
 (((List.length M90 <
 List.length
 (M90 ++ [AObj.cells [.int .i64 (Int.ofNat 25), .int .i64 (Int.ofNat 26)] 1 Mode.live]) →
 M95[List.length M90]? =
 (M90 ++
 [AObj.cells [.int .i64 (Int.ofNat 25), .int .i64 (Int.ofNat 26)] 1
 Mode.live])[List.length M90]?) ∧
 True) ∧
 ((n91 <
 List.length
 (M90 ++ [AObj.cells [.int .i64 (Int.ofNat 25), .int .i64 (Int.ofNat 26)] 1 Mode.live]) →
 M95[n91]? =
 (M90 ++
 [AObj.cells [.int .i64 (Int.ofNat 25), .int .i64 (Int.ofNat 26)] 1 Mode.live])[n91]?) ∧
 True) ∧
 True) ∧
 K (.int .i64 i96) M97)
 (cnd (eqF i4 (Int.ofNat 7))
 (∃ (i106 : Int),
 ∃ (M107 : Mem),
 Ret Try.prog 97 [.pointer (some (.mk p0 0 none)), .int .i64 (wrapF .i64 (Int.sub p1 (Int.ofNat 1)))] M3
 (.int .i64 i106) M107 ∧
 ∃ (n108 : Nat),
 ∃ (n109 : Nat),
 idxA Try.prog 22 (.slice (some (.mk (List.length M107) 0 none)) 2 2)
 (.int .i64 (wrapF .i64 (Int.sub i4 (Int.ofNat 6)))) =
 some (.pointer (some (.mk n108 n109 none))) ∧
 ∃ (i110 : Int),
 rdVar Try.prog (M107 ++ [AObj.cells [.int .i64 (Int.ofNat 25), .int .i64 (Int.ofNat 26)] 1 Mode.live]) 3 n108 n109 =
 some (Value.int .i64 i110) ∧
 ∃ (i111 : Int),
 ∃ (M112 : Mem),
 Ret Try.prog 97 [.pointer (some (.mk p0 0 none)), .int .i64 (wrapF .i64 (Int.sub p1 (Int.ofNat 1)))]
 (M107 ++ [AObj.cells [.int .i64 (Int.ofNat 25), .int .i64 (Int.ofNat 26)] 1 Mode.live])
 (.int .i64 i111) M112 ∧
 ∃ (i113 : Int),
 ∃ (M114 : Mem),
 Ret Try.prog 55
 [.pointer (some (.mk p0 0 none)), .int .i64 i110, .string (ByteArray.mk #[]),
 .string (ByteArray.mk #[]), .slice (some (.mk (List.length M112) 0 none)) 2 2]
 (M112 ++ [AObj.cells [.int .i64 i106, .int .i64 i111] 1 Mode.live]) (.int .i64 i113)
 M114 ∧
 (((List.length M107 <
 List.length
 (M107 ++ [AObj.cells [.int .i64 (Int.ofNat 25), .int .i64 (Int.ofNat 26)] 1 Mode.live]) →
 M112[List.length M107]? =
 (M107 ++
 [AObj.cells [.int .i64 (Int.ofNat 25), .int .i64 (Int.ofNat 26)] 1
 Mode.live])[List.length M107]?) ∧
 True) ∧
 ((n108 <
 List.length
 (M107 ++
 [AObj.cells [.int .i64 (Int.ofNat 25), .int .i64 (Int.ofNat 26)] 1 Mode.live]) →
 M112[n108]? =
 (M107 ++
 [AObj.cells [.int .i64 (Int.ofNat 25), .int .i64 (Int.ofNat 26)] 1
 Mode.live])[n108]?) ∧
 True) ∧
 True) ∧
 K (.int .i64 i113) M114)
 (cnd (eqF i4 (Int.ofNat 8))
 (∃ (i123 : Int),
 ∃ (M124 : Mem),
 Ret Try.prog 78 [.pointer (some (.mk p0 0 none)), .int .i64 (wrapF .i64 (Int.sub p1 (Int.ofNat 1)))] M3
 (.int .i64 i123) M124 ∧
 ∃ (i125 : Int),
 ∃ (M126 : Mem),
 Ret Try.prog 55
 [.pointer (some (.mk p0 0 none)), .int .i64 (Int.ofNat 29), .string (ByteArray.mk #[]),
 .string (ByteArray.mk #[]), .slice (some (.mk (List.length M124) 0 none)) 1 1]
 (M124 ++ [AObj.cells [.int .i64 i123] 1 Mode.live]) (.int .i64 i125) M126 ∧
 K (.int .i64 i125) M126)
 (cnd (eqF i4 (Int.ofNat 9))
 (∃ (i127 : Int),
 ∃ (M128 : Mem),
 Ret Try.prog 97 [.pointer (some (.mk p0 0 none)), .int .i64 (wrapF .i64 (Int.sub p1 (Int.ofNat 1)))] M3
 (.int .i64 i127) M128 ∧
 ∃ (i129 : Int),
 ∃ (M130 : Mem),
 Ret Try.prog 79 [.pointer (some (.mk p0 0 none)), .int .i64 (wrapF .i64 (Int.sub p1 (Int.ofNat 1)))] M128
 (.int .i64 i129) M130 ∧
 ∃ (i131 : Int),
 ∃ (M132 : Mem),
 Ret Try.prog 55
 [.pointer (some (.mk p0 0 none)), .int .i64 (Int.ofNat 30), .string (ByteArray.mk #[]),
 .string (ByteArray.mk #[]), .slice (some (.mk (List.length M130) 0 none)) 2 2]
 (M130 ++ [AObj.cells [.int .i64 i127, .int .i64 i129] 1 Mode.live]) (.int .i64 i131) M132 ∧
 K (.int .i64 i131) M132)
 (∃ (i133 : Int),
 ∃ (M134 : Mem),
 Ret Try.prog 31 [.pointer (some (.mk p0 0 none)), .int .i64 (Int.ofNat 4)] M3 (.int .i64 i133) M134 ∧
 ∀ (t135 : List Value),
 TIn 135
 [(0, .pointer (some (.mk p0 0 none))), (1, .int .i64 p1), (5, .int .i64 i4), (10, .slice none 0 0),
 (11, .int .i64 i133)]
 t135 →
 ∃ (a136 : Option Addr),
 ∃ (n137 : Nat),
 ∃ (n138 : Nat),
 ∃ (M139 : Mem),
 LpT Try.prog (Env.fn 78) [1, 1, 1, 1, 1, 0, 1, 0] t135 [] M134 false (.exit 1) [(10, .slice a136 n137 n138)] M139 ∧
 ∀ (w140 : Nat → Value),
 ∃ (i141 : Int),
 binA Try.prog BinOp.rem 3 (Operand.tmp 129) (Operand.const (.int .i64 (Int.ofNat 2))) (.int .i64 i4)
 (.int .i64 (Int.ofNat 2)) =
 some (Value.int .i64 i141) ∧
 ∃ (n142 : Nat),
 ∃ (n143 : Nat),
 idxA Try.prog 22 (.slice (some (.mk (List.length M139) 0 none)) 2 2) (.int .i64 i141) =
 some (.pointer (some (.mk n142 n143 none))) ∧
 ∃ (i144 : Int),
 rdVar Try.prog
 (M139 ++
 [AObj.cells [.int .i64 (Int.ofNat 27), .int .i64 (Int.ofNat 28)] 1 Mode.live])
 3 n142 n143 =
 some (Value.int .i64 i144) ∧
 ∃ (i145 : Int),
 ∃ (M146 : Mem),
 Ret Try.prog 55
 [.pointer (some (.mk p0 0 none)), .int .i64 i144, .string (ByteArray.mk #[]),
 .string (ByteArray.mk #[]), .slice a136 n137 n138]
 (M139 ++
 [AObj.cells [.int .i64 (Int.ofNat 27), .int .i64 (Int.ofNat 28)] 1 Mode.live])
 (.int .i64 i145) M146 ∧
 K (.int .i64 i145) M146)))))))))))
 (cnd (eqF i0 (Int.ofNat 0))
 (∃ (i147 : Int),
 ∃ (M148 : Mem),
 Ret Try.prog 31 [.pointer (some (.mk p0 0 none)), .int .i64 (Int.ofNat 2)]
 (M3 ++ [AObj.cells [.int .i64 (Int.ofNat 19), .int .i64 (Int.ofNat 20)] 1 Mode.live]) (.int .i64 i147) M148 ∧
 ∃ (n149 : Nat),
 ∃ (n150 : Nat),
 idxA Try.prog 22 (.slice (some (.mk (List.length M3) 0 none)) 2 2) (.int .i64 i147) = some (.pointer (some (.mk n149 n150 none))) ∧
 ∃ (i151 : Int),
 rdVar Try.prog M148 3 n149 n150 = some (.int .i64 i151) ∧
 ∃ (i152 : Int),
 ∃ (M153 : Mem),
 Ret Try.prog 55
 [.pointer (some (.mk p0 0 none)), .int .i64 i151, .string (ByteArray.mk #[]), .string (ByteArray.mk #[]),
 .slice none 0 0]
 M148 (.int .i64 i152) M153 ∧
 K (.int .i64 i152) M153)
 (cnd (eqF i0 (Int.ofNat 1))
 (∃ (a154 : Option Addr),
 ∃ (n155 : Nat),
 ∃ (n156 : Nat),
 ∃ (M157 : Mem),
 Ret Try.prog 69 [] M3 (.slice a154 n155 n156) M157 ∧
 ∃ (i158 : Int),
 ∃ (M159 : Mem),
 Ret Try.prog 31 [.pointer (some (.mk p0 0 none)), .int .i64 (Int.ofNat 6)] M157 (.int .i64 i158) M159 ∧
 ∃ (n160 : Nat),
 ∃ (n161 : Nat),
 idxA Try.prog 53 (.slice a154 n155 n156) (.int .i64 (wrapF .i64 (Int.add (Int.ofNat 1) i158))) =
 some (.pointer (some (.mk n160 n161 none))) ∧
 ∃ (s162 : ByteArray),
 rdVar Try.prog M159 9 n160 n161 = some (.string s162) ∧
 ∃ (i163 : Int),
 ∃ (M164 : Mem),
 Ret Try.prog 97 [.pointer (some (.mk p0 0 none)), .int .i64 (wrapF .i64 (Int.sub p1 (Int.ofNat 1)))] M159
 (.int .i64 i163) M164 ∧
 ∃ (i165 : Int),
 ∃ (M166 : Mem),
 Ret Try.prog 55
 [.pointer (some (.mk p0 0 none)), .int .i64 (Int.ofNat 21), .string s162,
 .string (ByteArray.mk #[]), .slice (some (.mk (List.length M164) 0 none)) 1 1]
 (M164 ++ [AObj.cells [.int .i64 i163] 1 Mode.live]) (.int .i64 i165) M166 ∧
 K (.int .i64 i165) M166)
 (cnd (eqF i0 (Int.ofNat 2))
 (∃ (a167 : Option Addr),
 ∃ (n168 : Nat),
 ∃ (n169 : Nat),
 ∃ (M170 : Mem),
 Ret Try.prog 69 [] M3 (.slice a167 n168 n169) M170 ∧
 ∃ (i171 : Int),
 ∃ (M172 : Mem),
 Ret Try.prog 31 [.pointer (some (.mk p0 0 none)), .int .i64 (Int.ofNat 6)] M170 (.int .i64 i171) M172 ∧
 ∃ (n173 : Nat),
 ∃ (n174 : Nat),
 idxA Try.prog 53 (.slice a167 n168 n169) (.int .i64 (wrapF .i64 (Int.add (Int.ofNat 1) i171))) =
 some (.pointer (some (.mk n173 n174 none))) ∧
 ∃ (s175 : ByteArray),
 rdVar Try.prog M172 9 n173 n174 = some (.string s175) ∧
 ∃ (i176 : Int),
 ∃ (M177 : Mem),
 Ret Try.prog 97 [.pointer (some (.mk p0 0 none)), .int .i64 (wrapF .i64 (Int.sub p1 (Int.ofNat 1)))] M172
 (.int .i64 i176) M177 ∧
 ∃ (i178 : Int),
 ∃ (M179 : Mem),
 Ret Try.prog 55
 [.pointer (some (.mk p0 0 none)), .int .i64 (Int.ofNat 21), .string s175,
 .string (ByteArray.mk #[]), .slice (some (.mk (List.length M177) 0 none)) 1 1]
 (M177 ++ [AObj.cells [.int .i64 i176] 1 Mode.live]) (.int .i64 i178) M179 ∧
 K (.int .i64 i178) M179)
 (cnd (eqF i0 (Int.ofNat 3))
 (∃ (i180 : Int),
 ∃ (M181 : Mem),
 Ret Try.prog 98 [.pointer (some (.mk p0 0 none)), .int .i64 (wrapF .i64 (Int.sub p1 (Int.ofNat 1)))] M3 (.int .i64 i180)
 M181 ∧
 ∃ (n182 : Nat),
 ∃ (n183 : Nat),
 idxA Try.prog 22 (.slice (some (.mk (List.length M181) 0 none)) 3 3) (.int .i64 (wrapF .i64 (Int.sub i0 (Int.ofNat 3)))) =
 some (.pointer (some (.mk n182 n183 none))) ∧
 ∃ (i184 : Int),
 rdVar Try.prog
 (M181 ++
 [AObj.cells [.int .i64 (Int.ofNat 22), .int .i64 (Int.ofNat 23), .int .i64 (Int.ofNat 24)] 1 Mode.live])
 3 n182 n183 =
 some (Value.int .i64 i184) ∧
 ∃ (i185 : Int),
 ∃ (M186 : Mem),
 Ret Try.prog 98 [.pointer (some (.mk p0 0 none)), .int .i64 (wrapF .i64 (Int.sub p1 (Int.ofNat 1)))]
 (M181 ++
 [AObj.cells [.int .i64 (Int.ofNat 22), .int .i64 (Int.ofNat 23), .int .i64 (Int.ofNat 24)] 1 Mode.live])
 (.int .i64 i185) M186 ∧
 ∃ (i187 : Int),
 ∃ (M188 : Mem),
 Ret Try.prog 55
 [.pointer (some (.mk p0 0 none)), .int .i64 i184, .string (ByteArray.mk #[]), .string (ByteArray.mk #[]),
 .slice (some (.mk (List.length M186) 0 none)) 2 2]
 (M186 ++ [AObj.cells [.int .i64 i180, .int .i64 i185] 1 Mode.live]) (.int .i64 i187) M188 ∧
 (((List.length M181 <
 List.length
 (M181 ++
 [AObj.cells
 [.int .i64 (Int.ofNat 22), .int .i64 (Int.ofNat 23), .int .i64 (Int.ofNat 24)] 1
 Mode.live]) →
 M186[List.length M181]? =
 (M181 ++
 [AObj.cells
 [.int .i64 (Int.ofNat 22), .int .i64 (Int.ofNat 23), .int .i64 (Int.ofNat 24)] 1
 Mode.live])[List.length M181]?) ∧
 True) ∧
 ((n182 <
 List.length
 (M181 ++
 [AObj.cells
 [.int .i64 (Int.ofNat 22), .int .i64 (Int.ofNat 23), .int .i64 (Int.ofNat 24)] 1
 Mode.live]) →
 M186[n182]? =
 (M181 ++
 [AObj.cells
 [.int .i64 (Int.ofNat 22), .int .i64 (Int.ofNat 23), .int .i64 (Int.ofNat 24)] 1
 Mode.live])[n182]?) ∧
 True) ∧
 True) ∧
 K (.int .i64 i187) M188)
 (cnd (eqF i0 (Int.ofNat 4))
 (∃ (i197 : Int),
 ∃ (M198 : Mem),
 Ret Try.prog 98 [.pointer (some (.mk p0 0 none)), .int .i64 (wrapF .i64 (Int.sub p1 (Int.ofNat 1)))] M3 (.int .i64 i197)
 M198 ∧
 ∃ (n199 : Nat),
 ∃ (n200 : Nat),
 idxA Try.prog 22 (.slice (some (.mk (List.length M198) 0 none)) 3 3) (.int .i64 (wrapF .i64 (Int.sub i0 (Int.ofNat 3)))) =
 some (.pointer (some (.mk n199 n200 none))) ∧
 ∃ (i201 : Int),
 rdVar Try.prog
 (M198 ++
 [AObj.cells [.int .i64 (Int.ofNat 22), .int .i64 (Int.ofNat 23), .int .i64 (Int.ofNat 24)] 1 Mode.live])
 3 n199 n200 =
 some (Value.int .i64 i201) ∧
 ∃ (i202 : Int),
 ∃ (M203 : Mem),
 Ret Try.prog 98 [.pointer (some (.mk p0 0 none)), .int .i64 (wrapF .i64 (Int.sub p1 (Int.ofNat 1)))]
 (M198 ++
 [AObj.cells [.int .i64 (Int.ofNat 22), .int .i64 (Int.ofNat 23), .int .i64 (Int.ofNat 24)] 1
 Mode.live])
 (.int .i64 i202) M203 ∧
 ∃ (i204 : Int),
 ∃ (M205 : Mem),
 Ret Try.prog 55
 [.pointer (some (.mk p0 0 none)), .int .i64 i201, .string (ByteArray.mk #[]),
 .string (ByteArray.mk #[]), .slice (some (.mk (List.length M203) 0 none)) 2 2]
 (M203 ++ [AObj.cells [.int .i64 i197, .int .i64 i202] 1 Mode.live]) (.int .i64 i204) M205 ∧
 (((List.length M198 <
 List.length
 (M198 ++
 [AObj.cells
 [.int .i64 (Int.ofNat 22), .int .i64 (Int.ofNat 23), .int .i64 (Int.ofNat 24)] 1
 Mode.live]) →
 M203[List.length M198]? =
 (M198 ++
 [AObj.cells
 [.int .i64 (Int.ofNat 22), .int .i64 (Int.ofNat 23), .int .i64 (Int.ofNat 24)] 1
 Mode.live])[List.length M198]?) ∧
 True) ∧
 ((n199 <
 List.length
 (M198 ++
 [AObj.cells
 [.int .i64 (Int.ofNat 22), .int .i64 (Int.ofNat 23), .int .i64 (Int.ofNat 24)] 1
 Mode.live]) →
 M203[n199]? =
 (M198 ++
 [AObj.cells
 [.int .i64 (Int.ofNat 22), .int .i64 (Int.ofNat 23), .int .i64 (Int.ofNat 24)] 1
 Mode.live])[n199]?) ∧
 True) ∧
 True) ∧
 K (.int .i64 i204) M205)
 (cnd (eqF i0 (Int.ofNat 5))
 (∃ (i214 : Int),
 ∃ (M215 : Mem),
 Ret Try.prog 98 [.pointer (some (.mk p0 0 none)), .int .i64 (wrapF .i64 (Int.sub p1 (Int.ofNat 1)))] M3
 (.int .i64 i214) M215 ∧
 ∃ (n216 : Nat),
 ∃ (n217 : Nat),
 idxA Try.prog 22 (.slice (some (.mk (List.length M215) 0 none)) 3 3) (.int .i64 (wrapF .i64 (Int.sub i0 (Int.ofNat 3)))) =
 some (.pointer (some (.mk n216 n217 none))) ∧
 ∃ (i218 : Int),
 rdVar Try.prog
 (M215 ++
 [AObj.cells [.int .i64 (Int.ofNat 22), .int .i64 (Int.ofNat 23), .int .i64 (Int.ofNat 24)] 1 Mode.live])
 3 n216 n217 =
 some (Value.int .i64 i218) ∧
 ∃ (i219 : Int),
 ∃ (M220 : Mem),
 Ret Try.prog 98 [.pointer (some (.mk p0 0 none)), .int .i64 (wrapF .i64 (Int.sub p1 (Int.ofNat 1)))]
 (M215 ++
 [AObj.cells [.int .i64 (Int.ofNat 22), .int .i64 (Int.ofNat 23), .int .i64 (Int.ofNat 24)] 1
 Mode.live])
 (.int .i64 i219) M220 ∧
 ∃ (i221 : Int),
 ∃ (M222 : Mem),
 Ret Try.prog 55
 [.pointer (some (.mk p0 0 none)), .int .i64 i218, .string (ByteArray.mk #[]),
 .string (ByteArray.mk #[]), .slice (some (.mk (List.length M220) 0 none)) 2 2]
 (M220 ++ [AObj.cells [.int .i64 i214, .int .i64 i219] 1 Mode.live]) (.int .i64 i221) M222 ∧
 (((List.length M215 <
 List.length
 (M215 ++
 [AObj.cells
 [.int .i64 (Int.ofNat 22), .int .i64 (Int.ofNat 23), .int .i64 (Int.ofNat 24)] 1
 Mode.live]) →
 M220[List.length M215]? =
 (M215 ++
 [AObj.cells
 [.int .i64 (Int.ofNat 22), .int .i64 (Int.ofNat 23), .int .i64 (Int.ofNat 24)] 1
 Mode.live])[List.length M215]?) ∧
 True) ∧
 ((n216 <
 List.length
 (M215 ++
 [AObj.cells
 [.int .i64 (Int.ofNat 22), .int .i64 (Int.ofNat 23), .int .i64 (Int.ofNat 24)]
 1 Mode.live]) →
 M220[n216]? =
 (M215 ++
 [AObj.cells
 [.int .i64 (Int.ofNat 22), .int .i64 (Int.ofNat 23), .int .i64 (Int.ofNat 24)]
 1 Mode.live])[n216]?) ∧
 True) ∧
 True) ∧
 K (.int .i64 i221) M222)
 (cnd (eqF i0 (Int.ofNat 6))
 (∃ (i231 : Int),
 ∃ (M232 : Mem),
 Ret Try.prog 97 [.pointer (some (.mk p0 0 none)), .int .i64 (wrapF .i64 (Int.sub p1 (Int.ofNat 1)))] M3
 (.int .i64 i231) M232 ∧
 ∃ (n233 : Nat),
 ∃ (n234 : Nat),
 idxA Try.prog 22 (.slice (some (.mk (List.length M232) 0 none)) 2 2) (.int .i64 (wrapF .i64 (Int.sub i0 (Int.ofNat 6)))) =
 some (.pointer (some (.mk n233 n234 none))) ∧
 ∃ (i235 : Int),
 rdVar Try.prog (M232 ++ [AObj.cells [.int .i64 (Int.ofNat 25), .int .i64 (Int.ofNat 26)] 1 Mode.live]) 3 n233 n234 =
 some (Value.int .i64 i235) ∧
 ∃ (i236 : Int),
 ∃ (M237 : Mem),
 Ret Try.prog 97 [.pointer (some (.mk p0 0 none)), .int .i64 (wrapF .i64 (Int.sub p1 (Int.ofNat 1)))]
 (M232 ++ [AObj.cells [.int .i64 (Int.ofNat 25), .int .i64 (Int.ofNat 26)] 1 Mode.live])
 (.int .i64 i236) M237 ∧
 ∃ (i238 : Int),
 ∃ (M239 : Mem),
 Ret Try.prog 55
 [.pointer (some (.mk p0 0 none)), .int .i64 i235, .string (ByteArray.mk #[]),
 .string (ByteArray.mk #[]), .slice (some (.mk (List.length M237) 0 none)) 2 2]
 (M237 ++ [AObj.cells [.int .i64 i231, .int .i64 i236] 1 Mode.live]) (.int .i64 i238) M239 ∧
 (((List.length M232 <
 List.length
 (M232 ++ [AObj.cells [.int .i64 (Int.ofNat 25), .int .i64 (Int.ofNat 26)] 1 Mode.live]) →
 M237[List.length M232]? =
 (M232 ++
 [AObj.cells [.int .i64 (Int.ofNat 25), .int .i64 (Int.ofNat 26)] 1
 Mode.live])[List.length M232]?) ∧
 True) ∧
 ((n233 <
 List.length
 (M232 ++ [AObj.cells [.int .i64 (Int.ofNat 25), .int .i64 (Int.ofNat 26)] 1 Mode.live]) →
 M237[n233]? =
 (M232 ++
 [AObj.cells [.int .i64 (Int.ofNat 25), .int .i64 (Int.ofNat 26)] 1 Mode.live])[n233]?) ∧
 True) ∧
 True) ∧
 K (.int .i64 i238) M239)
 (cnd (eqF i0 (Int.ofNat 7))
 (∃ (i248 : Int),
 ∃ (M249 : Mem),
 Ret Try.prog 97 [.pointer (some (.mk p0 0 none)), .int .i64 (wrapF .i64 (Int.sub p1 (Int.ofNat 1)))] M3
 (.int .i64 i248) M249 ∧
 ∃ (n250 : Nat),
 ∃ (n251 : Nat),
 idxA Try.prog 22 (.slice (some (.mk (List.length M249) 0 none)) 2 2)
 (.int .i64 (wrapF .i64 (Int.sub i0 (Int.ofNat 6)))) =
 some (.pointer (some (.mk n250 n251 none))) ∧
 ∃ (i252 : Int),
 rdVar Try.prog (M249 ++ [AObj.cells [.int .i64 (Int.ofNat 25), .int .i64 (Int.ofNat 26)] 1 Mode.live]) 3 n250 n251 =
 some (Value.int .i64 i252) ∧
 ∃ (i253 : Int),
 ∃ (M254 : Mem),
 Ret Try.prog 97 [.pointer (some (.mk p0 0 none)), .int .i64 (wrapF .i64 (Int.sub p1 (Int.ofNat 1)))]
 (M249 ++ [AObj.cells [.int .i64 (Int.ofNat 25), .int .i64 (Int.ofNat 26)] 1 Mode.live])
 (.int .i64 i253) M254 ∧
 ∃ (i255 : Int),
 ∃ (M256 : Mem),
 Ret Try.prog 55
 [.pointer (some (.mk p0 0 none)), .int .i64 i252, .string (ByteArray.mk #[]),
 .string (ByteArray.mk #[]), .slice (some (.mk (List.length M254) 0 none)) 2 2]
 (M254 ++ [AObj.cells [.int .i64 i248, .int .i64 i253] 1 Mode.live]) (.int .i64 i255) M256 ∧
 (((List.length M249 <
 List.length
 (M249 ++ [AObj.cells [.int .i64 (Int.ofNat 25), .int .i64 (Int.ofNat 26)] 1 Mode.live]) →
 M254[List.length M249]? =
 (M249 ++
 [AObj.cells [.int .i64 (Int.ofNat 25), .int .i64 (Int.ofNat 26)] 1
 Mode.live])[List.length M249]?) ∧
 True) ∧
 ((n250 <
 List.length
 (M249 ++ [AObj.cells [.int .i64 (Int.ofNat 25), .int .i64 (Int.ofNat 26)] 1 Mode.live]) →
 M254[n250]? =
 (M249 ++
 [AObj.cells [.int .i64 (Int.ofNat 25), .int .i64 (Int.ofNat 26)] 1 Mode.live])[n250]?) ∧
 True) ∧
 True) ∧
 K (.int .i64 i255) M256)
 (cnd (eqF i0 (Int.ofNat 8))
 (∃ (i265 : Int),
 ∃ (M266 : Mem),
 Ret Try.prog 78 [.pointer (some (.mk p0 0 none)), .int .i64 (wrapF .i64 (Int.sub p1 (Int.ofNat 1)))] M3
 (.int .i64 i265) M266 ∧
 ∃ (i267 : Int),
 ∃ (M268 : Mem),
 Ret Try.prog 55
 [.pointer (some (.mk p0 0 none)), .int .i64 (Int.ofNat 29), .string (ByteArray.mk #[]),
 .string (ByteArray.mk #[]), .slice (some (.mk (List.length M266) 0 none)) 1 1]
 (M266 ++ [AObj.cells [.int .i64 i265] 1 Mode.live]) (.int .i64 i267) M268 ∧
 K (.int .i64 i267) M268)
 (cnd (eqF i0 (Int.ofNat 9))
 (∃ (i269 : Int),
 ∃ (M270 : Mem),
 Ret Try.prog 97 [.pointer (some (.mk p0 0 none)), .int .i64 (wrapF .i64 (Int.sub p1 (Int.ofNat 1)))] M3
 (.int .i64 i269) M270 ∧
 ∃ (i271 : Int),
 ∃ (M272 : Mem),
 Ret Try.prog 79 [.pointer (some (.mk p0 0 none)), .int .i64 (wrapF .i64 (Int.sub p1 (Int.ofNat 1)))] M270
 (.int .i64 i271) M272 ∧
 ∃ (i273 : Int),
 ∃ (M274 : Mem),
 Ret Try.prog 55
 [.pointer (some (.mk p0 0 none)), .int .i64 (Int.ofNat 30), .string (ByteArray.mk #[]),
 .string (ByteArray.mk #[]), .slice (some (.mk (List.length M272) 0 none)) 2 2]
 (M272 ++ [AObj.cells [.int .i64 i269, .int .i64 i271] 1 Mode.live]) (.int .i64 i273) M274 ∧
 K (.int .i64 i273) M274)
 (∃ (i275 : Int),
 ∃ (M276 : Mem),
 Ret Try.prog 31 [.pointer (some (.mk p0 0 none)), .int .i64 (Int.ofNat 4)] M3 (.int .i64 i275) M276 ∧
 ∀ (t277 : List Value),
 TIn 135
 [(0, .pointer (some (.mk p0 0 none))), (1, .int .i64 p1), (5, .int .i64 i0), (10, .slice none 0 0),
 (11, .int .i64 i275)]
 t277 →
 ∃ (a278 : Option Addr),
 ∃ (n279 : Nat),
 ∃ (n280 : Nat),
 ∃ (M281 : Mem),
 LpT Try.prog (Env.fn 78) [1, 1, 1, 1, 1, 0, 1, 0] t277 [] M276 false (.exit 1) [(10, .slice a278 n279 n280)] M281 ∧
 ∀ (w282 : Nat → Value),
 ∃ (i283 : Int),
 binA Try.prog BinOp.rem 3 (Operand.tmp 129) (Operand.const (.int .i64 (Int.ofNat 2))) (.int .i64 i0)
 (.int .i64 (Int.ofNat 2)) =
 some (Value.int .i64 i283) ∧
 ∃ (n284 : Nat),
 ∃ (n285 : Nat),
 idxA Try.prog 22 (.slice (some (.mk (List.length M281) 0 none)) 2 2) (.int .i64 i283) =
 some (.pointer (some (.mk n284 n285 none))) ∧
 ∃ (i286 : Int),
 rdVar Try.prog
 (M281 ++ [AObj.cells [.int .i64 (Int.ofNat 27), .int .i64 (Int.ofNat 28)] 1 Mode.live]) 3
 n284 n285 =
 some (Value.int .i64 i286) ∧
 ∃ (i287 : Int),
 ∃ (M288 : Mem),
 Ret Try.prog 55
 [.pointer (some (.mk p0 0 none)), .int .i64 i286, .string (ByteArray.mk #[]),
 .string (ByteArray.mk #[]), .slice a278 n279 n280]
 (M281 ++
 [AObj.cells [.int .i64 (Int.ofNat 27), .int .i64 (Int.ofNat 28)] 1 Mode.live])
 (.int .i64 i287) M288 ∧
 K (.int .i64 i287) M288))))))))))))
 (cnd (eqF i0 (Int.ofNat 0))
 (∃ (i289 : Int),
 ∃ (M290 : Mem),
 Ret Try.prog 31 [.pointer (some (.mk p0 0 none)), .int .i64 (Int.ofNat 2)]
 (M3 ++ [AObj.cells [.int .i64 (Int.ofNat 19), .int .i64 (Int.ofNat 20)] 1 Mode.live]) (.int .i64 i289) M290 ∧
 ∃ (n291 : Nat),
 ∃ (n292 : Nat),
 idxA Try.prog 22 (.slice (some (.mk (List.length M3) 0 none)) 2 2) (.int .i64 i289) = some (.pointer (some (.mk n291 n292 none))) ∧
 ∃ (i293 : Int),
 rdVar Try.prog M290 3 n291 n292 = some (.int .i64 i293) ∧
 ∃ (i294 : Int),
 ∃ (M295 : Mem),
 Ret Try.prog 55
 [.pointer (some (.mk p0 0 none)), .int .i64 i293, .string (ByteArray.mk #[]), .string (ByteArray.mk #[]),
 .slice none 0 0]
 M290 (.int .i64 i294) M295 ∧
 K (.int .i64 i294) M295)
 (cnd (eqF i0 (Int.ofNat 1))
 (∃ (a296 : Option Addr),
 ∃ (n297 : Nat),
 ∃ (n298 : Nat),
 ∃ (M299 : Mem),
 Ret Try.prog 69 [] M3 (.slice a296 n297 n298) M299 ∧
 ∃ (i300 : Int),
 ∃ (M301 : Mem),
 Ret Try.prog 31 [.pointer (some (.mk p0 0 none)), .int .i64 (Int.ofNat 6)] M299 (.int .i64 i300) M301 ∧
 ∃ (n302 : Nat),
 ∃ (n303 : Nat),
 idxA Try.prog 53 (.slice a296 n297 n298) (.int .i64 (wrapF .i64 (Int.add (Int.ofNat 1) i300))) =
 some (.pointer (some (.mk n302 n303 none))) ∧
 ∃ (s304 : ByteArray),
 rdVar Try.prog M301 9 n302 n303 = some (.string s304) ∧
 ∃ (i305 : Int),
 ∃ (M306 : Mem),
 Ret Try.prog 97 [.pointer (some (.mk p0 0 none)), .int .i64 (wrapF .i64 (Int.sub p1 (Int.ofNat 1)))] M301
 (.int .i64 i305) M306 ∧
 ∃ (i307 : Int),
 ∃ (M308 : Mem),
 Ret Try.prog 55
 [.pointer (some (.mk p0 0 none)), .int .i64 (Int.ofNat 21), .string s304, .string (ByteArray.mk #[]),
 .slice (some (.mk (List.length M306) 0 none)) 1 1]
 (M306 ++ [AObj.cells [.int .i64 i305] 1 Mode.live]) (.int .i64 i307) M308 ∧
 K (.int .i64 i307) M308)
 (cnd (eqF i0 (Int.ofNat 2))
 (∃ (a309 : Option Addr),
 ∃ (n310 : Nat),
 ∃ (n311 : Nat),
 ∃ (M312 : Mem),
 Ret Try.prog 69 [] M3 (.slice a309 n310 n311) M312 ∧
 ∃ (i313 : Int),
 ∃ (M314 : Mem),
 Ret Try.prog 31 [.pointer (some (.mk p0 0 none)), .int .i64 (Int.ofNat 6)] M312 (.int .i64 i313) M314 ∧
 ∃ (n315 : Nat),
 ∃ (n316 : Nat),
 idxA Try.prog 53 (.slice a309 n310 n311) (.int .i64 (wrapF .i64 (Int.add (Int.ofNat 1) i313))) =
 some (.pointer (some (.mk n315 n316 none))) ∧
 ∃ (s317 : ByteArray),
 rdVar Try.prog M314 9 n315 n316 = some (.string s317) ∧
 ∃ (i318 : Int),
 ∃ (M319 : Mem),
 Ret Try.prog 97 [.pointer (some (.mk p0 0 none)), .int .i64 (wrapF .i64 (Int.sub p1 (Int.ofNat 1)))] M314
 (.int .i64 i318) M319 ∧
 ∃ (i320 : Int),
 ∃ (M321 : Mem),
 Ret Try.prog 55
 [.pointer (some (.mk p0 0 none)), .int .i64 (Int.ofNat 21), .string s317,
 .string (ByteArray.mk #[]), .slice (some (.mk (List.length M319) 0 none)) 1 1]
 (M319 ++ [AObj.cells [.int .i64 i318] 1 Mode.live]) (.int .i64 i320) M321 ∧
 K (.int .i64 i320) M321)
 (cnd (eqF i0 (Int.ofNat 3))
 (∃ (i322 : Int),
 ∃ (M323 : Mem),
 Ret Try.prog 98 [.pointer (some (.mk p0 0 none)), .int .i64 (wrapF .i64 (Int.sub p1 (Int.ofNat 1)))] M3 (.int .i64 i322)
 M323 ∧
 ∃ (n324 : Nat),
 ∃ (n325 : Nat),
 idxA Try.prog 22 (.slice (some (.mk (List.length M323) 0 none)) 3 3) (.int .i64 (wrapF .i64 (Int.sub i0 (Int.ofNat 3)))) =
 some (.pointer (some (.mk n324 n325 none))) ∧
 ∃ (i326 : Int),
 rdVar Try.prog
 (M323 ++
 [AObj.cells [.int .i64 (Int.ofNat 22), .int .i64 (Int.ofNat 23), .int .i64 (Int.ofNat 24)] 1 Mode.live])
 3 n324 n325 =
 some (Value.int .i64 i326) ∧
 ∃ (i327 : Int),
 ∃ (M328 : Mem),
 Ret Try.prog 98 [.pointer (some (.mk p0 0 none)), .int .i64 (wrapF .i64 (Int.sub p1 (Int.ofNat 1)))]
 (M323 ++
 [AObj.cells [.int .i64 (Int.ofNat 22), .int .i64 (Int.ofNat 23), .int .i64 (Int.ofNat 24)] 1 Mode.live])
 (.int .i64 i327) M328 ∧
 ∃ (i329 : Int),
 ∃ (M330 : Mem),
 Ret Try.prog 55
 [.pointer (some (.mk p0 0 none)), .int .i64 i326, .string (ByteArray.mk #[]), .string (ByteArray.mk #[]),
 .slice (some (.mk (List.length M328) 0 none)) 2 2]
 (M328 ++ [AObj.cells [.int .i64 i322, .int .i64 i327] 1 Mode.live]) (.int .i64 i329) M330 ∧
 (((List.length M323 <
 List.length
 (M323 ++
 [AObj.cells [.int .i64 (Int.ofNat 22), .int .i64 (Int.ofNat 23), .int .i64 (Int.ofNat 24)]
 1 Mode.live]) →
 M328[List.length M323]? =
 (M323 ++
 [AObj.cells [.int .i64 (Int.ofNat 22), .int .i64 (Int.ofNat 23), .int .i64 (Int.ofNat 24)]
 1 Mode.live])[List.length M323]?) ∧
 True) ∧
 ((n324 <
 List.length
 (M323 ++
 [AObj.cells
 [.int .i64 (Int.ofNat 22), .int .i64 (Int.ofNat 23), .int .i64 (Int.ofNat 24)] 1
 Mode.live]) →
 M328[n324]? =
 (M323 ++
 [AObj.cells
 [.int .i64 (Int.ofNat 22), .int .i64 (Int.ofNat 23), .int .i64 (Int.ofNat 24)] 1
 Mode.live])[n324]?) ∧
 True) ∧
 True) ∧
 K (.int .i64 i329) M330)
 (cnd (eqF i0 (Int.ofNat 4))
 (∃ (i339 : Int),
 ∃ (M340 : Mem),
 Ret Try.prog 98 [.pointer (some (.mk p0 0 none)), .int .i64 (wrapF .i64 (Int.sub p1 (Int.ofNat 1)))] M3 (.int .i64 i339)
 M340 ∧
 ∃ (n341 : Nat),
 ∃ (n342 : Nat),
 idxA Try.prog 22 (.slice (some (.mk (List.length M340) 0 none)) 3 3) (.int .i64 (wrapF .i64 (Int.sub i0 (Int.ofNat 3)))) =
 some (.pointer (some (.mk n341 n342 none))) ∧
 ∃ (i343 : Int),
 rdVar Try.prog
 (M340 ++
 [AObj.cells [.int .i64 (Int.ofNat 22), .int .i64 (Int.ofNat 23), .int .i64 (Int.ofNat 24)] 1 Mode.live])
 3 n341 n342 =
 some (Value.int .i64 i343) ∧
 ∃ (i344 : Int),
 ∃ (M345 : Mem),
 Ret Try.prog 98 [.pointer (some (.mk p0 0 none)), .int .i64 (wrapF .i64 (Int.sub p1 (Int.ofNat 1)))]
 (M340 ++
 [AObj.cells [.int .i64 (Int.ofNat 22), .int .i64 (Int.ofNat 23), .int .i64 (Int.ofNat 24)] 1 Mode.live])
 (.int .i64 i344) M345 ∧
 ∃ (i346 : Int),
 ∃ (M347 : Mem),
 Ret Try.prog 55
 [.pointer (some (.mk p0 0 none)), .int .i64 i343, .string (ByteArray.mk #[]), .string (ByteArray.mk #[]),
 .slice (some (.mk (List.length M345) 0 none)) 2 2]
 (M345 ++ [AObj.cells [.int .i64 i339, .int .i64 i344] 1 Mode.live]) (.int .i64 i346) M347 ∧
 (((List.length M340 <
 List.length
 (M340 ++
 [AObj.cells
 [.int .i64 (Int.ofNat 22), .int .i64 (Int.ofNat 23), .int .i64 (Int.ofNat 24)] 1
 Mode.live]) →
 M345[List.length M340]? =
 (M340 ++
 [AObj.cells
 [.int .i64 (Int.ofNat 22), .int .i64 (Int.ofNat 23), .int .i64 (Int.ofNat 24)] 1
 Mode.live])[List.length M340]?) ∧
 True) ∧
 ((n341 <
 List.length
 (M340 ++
 [AObj.cells
 [.int .i64 (Int.ofNat 22), .int .i64 (Int.ofNat 23), .int .i64 (Int.ofNat 24)] 1
 Mode.live]) →
 M345[n341]? =
 (M340 ++
 [AObj.cells
 [.int .i64 (Int.ofNat 22), .int .i64 (Int.ofNat 23), .int .i64 (Int.ofNat 24)] 1
 Mode.live])[n341]?) ∧
 True) ∧
 True) ∧
 K (.int .i64 i346) M347)
 (cnd (eqF i0 (Int.ofNat 5))
 (∃ (i356 : Int),
 ∃ (M357 : Mem),
 Ret Try.prog 98 [.pointer (some (.mk p0 0 none)), .int .i64 (wrapF .i64 (Int.sub p1 (Int.ofNat 1)))] M3 (.int .i64 i356)
 M357 ∧
 ∃ (n358 : Nat),
 ∃ (n359 : Nat),
 idxA Try.prog 22 (.slice (some (.mk (List.length M357) 0 none)) 3 3) (.int .i64 (wrapF .i64 (Int.sub i0 (Int.ofNat 3)))) =
 some (.pointer (some (.mk n358 n359 none))) ∧
 ∃ (i360 : Int),
 rdVar Try.prog
 (M357 ++
 [AObj.cells [.int .i64 (Int.ofNat 22), .int .i64 (Int.ofNat 23), .int .i64 (Int.ofNat 24)] 1 Mode.live])
 3 n358 n359 =
 some (Value.int .i64 i360) ∧
 ∃ (i361 : Int),
 ∃ (M362 : Mem),
 Ret Try.prog 98 [.pointer (some (.mk p0 0 none)), .int .i64 (wrapF .i64 (Int.sub p1 (Int.ofNat 1)))]
 (M357 ++
 [AObj.cells [.int .i64 (Int.ofNat 22), .int .i64 (Int.ofNat 23), .int .i64 (Int.ofNat 24)] 1
 Mode.live])
 (.int .i64 i361) M362 ∧
 ∃ (i363 : Int),
 ∃ (M364 : Mem),
 Ret Try.prog 55
 [.pointer (some (.mk p0 0 none)), .int .i64 i360, .string (ByteArray.mk #[]),
 .string (ByteArray.mk #[]), .slice (some (.mk (List.length M362) 0 none)) 2 2]
 (M362 ++ [AObj.cells [.int .i64 i356, .int .i64 i361] 1 Mode.live]) (.int .i64 i363) M364 ∧
 (((List.length M357 <
 List.length
 (M357 ++
 [AObj.cells
 [.int .i64 (Int.ofNat 22), .int .i64 (Int.ofNat 23), .int .i64 (Int.ofNat 24)] 1
 Mode.live]) →
 M362[List.length M357]? =
 (M357 ++
 [AObj.cells
 [.int .i64 (Int.ofNat 22), .int .i64 (Int.ofNat 23), .int .i64 (Int.ofNat 24)] 1
 Mode.live])[List.length M357]?) ∧
 True) ∧
 ((n358 <
 List.length
 (M357 ++
 [AObj.cells
 [.int .i64 (Int.ofNat 22), .int .i64 (Int.ofNat 23), .int .i64 (Int.ofNat 24)] 1
 Mode.live]) →
 M362[n358]? =
 (M357 ++
 [AObj.cells
 [.int .i64 (Int.ofNat 22), .int .i64 (Int.ofNat 23), .int .i64 (Int.ofNat 24)] 1
 Mode.live])[n358]?) ∧
 True) ∧
 True) ∧
 K (.int .i64 i363) M364)
 (cnd (eqF i0 (Int.ofNat 6))
 (∃ (i373 : Int),
 ∃ (M374 : Mem),
 Ret Try.prog 97 [.pointer (some (.mk p0 0 none)), .int .i64 (wrapF .i64 (Int.sub p1 (Int.ofNat 1)))] M3
 (.int .i64 i373) M374 ∧
 ∃ (n375 : Nat),
 ∃ (n376 : Nat),
 idxA Try.prog 22 (.slice (some (.mk (List.length M374) 0 none)) 2 2) (.int .i64 (wrapF .i64 (Int.sub i0 (Int.ofNat 6)))) =
 some (.pointer (some (.mk n375 n376 none))) ∧
 ∃ (i377 : Int),
 rdVar Try.prog (M374 ++ [AObj.cells [.int .i64 (Int.ofNat 25), .int .i64 (Int.ofNat 26)] 1 Mode.live]) 3 n375 n376 =
 some (Value.int .i64 i377) ∧
 ∃ (i378 : Int),
 ∃ (M379 : Mem),
 Ret Try.prog 97 [.pointer (some (.mk p0 0 none)), .int .i64 (wrapF .i64 (Int.sub p1 (Int.ofNat 1)))]
 (M374 ++ [AObj.cells [.int .i64 (Int.ofNat 25), .int .i64 (Int.ofNat 26)] 1 Mode.live])
 (.int .i64 i378) M379 ∧
 ∃ (i380 : Int),
 ∃ (M381 : Mem),
 Ret Try.prog 55
 [.pointer (some (.mk p0 0 none)), .int .i64 i377, .string (ByteArray.mk #[]),
 .string (ByteArray.mk #[]), .slice (some (.mk (List.length M379) 0 none)) 2 2]
 (M379 ++ [AObj.cells [.int .i64 i373, .int .i64 i378] 1 Mode.live]) (.int .i64 i380) M381 ∧
 (((List.length M374 <
 List.length
 (M374 ++ [AObj.cells [.int .i64 (Int.ofNat 25), .int .i64 (Int.ofNat 26)] 1 Mode.live]) →
 M379[List.length M374]? =
 (M374 ++
 [AObj.cells [.int .i64 (Int.ofNat 25), .int .i64 (Int.ofNat 26)] 1
 Mode.live])[List.length M374]?) ∧
 True) ∧
 ((n375 <
 List.length
 (M374 ++ [AObj.cells [.int .i64 (Int.ofNat 25), .int .i64 (Int.ofNat 26)] 1 Mode.live]) →
 M379[n375]? =
 (M374 ++ [AObj.cells [.int .i64 (Int.ofNat 25), .int .i64 (Int.ofNat 26)] 1 Mode.live])[n375]?) ∧
 True) ∧
 True) ∧
 K (.int .i64 i380) M381)
 (cnd (eqF i0 (Int.ofNat 7))
 (∃ (i390 : Int),
 ∃ (M391 : Mem),
 Ret Try.prog 97 [.pointer (some (.mk p0 0 none)), .int .i64 (wrapF .i64 (Int.sub p1 (Int.ofNat 1)))] M3
 (.int .i64 i390) M391 ∧
 ∃ (n392 : Nat),
 ∃ (n393 : Nat),
 idxA Try.prog 22 (.slice (some (.mk (List.length M391) 0 none)) 2 2) (.int .i64 (wrapF .i64 (Int.sub i0 (Int.ofNat 6)))) =
 some (.pointer (some (.mk n392 n393 none))) ∧
 ∃ (i394 : Int),
 rdVar Try.prog (M391 ++ [AObj.cells [.int .i64 (Int.ofNat 25), .int .i64 (Int.ofNat 26)] 1 Mode.live]) 3 n392 n393 =
 some (Value.int .i64 i394) ∧
 ∃ (i395 : Int),
 ∃ (M396 : Mem),
 Ret Try.prog 97 [.pointer (some (.mk p0 0 none)), .int .i64 (wrapF .i64 (Int.sub p1 (Int.ofNat 1)))]
 (M391 ++ [AObj.cells [.int .i64 (Int.ofNat 25), .int .i64 (Int.ofNat 26)] 1 Mode.live])
 (.int .i64 i395) M396 ∧
 ∃ (i397 : Int),
 ∃ (M398 : Mem),
 Ret Try.prog 55
 [.pointer (some (.mk p0 0 none)), .int .i64 i394, .string (ByteArray.mk #[]),
 .string (ByteArray.mk #[]), .slice (some (.mk (List.length M396) 0 none)) 2 2]
 (M396 ++ [AObj.cells [.int .i64 i390, .int .i64 i395] 1 Mode.live]) (.int .i64 i397) M398 ∧
 (((List.length M391 <
 List.length
 (M391 ++ [AObj.cells [.int .i64 (Int.ofNat 25), .int .i64 (Int.ofNat 26)] 1 Mode.live]) →
 M396[List.length M391]? =
 (M391 ++
 [AObj.cells [.int .i64 (Int.ofNat 25), .int .i64 (Int.ofNat 26)] 1
 Mode.live])[List.length M391]?) ∧
 True) ∧
 ((n392 <
 List.length
 (M391 ++ [AObj.cells [.int .i64 (Int.ofNat 25), .int .i64 (Int.ofNat 26)] 1 Mode.live]) →
 M396[n392]? =
 (M391 ++
 [AObj.cells [.int .i64 (Int.ofNat 25), .int .i64 (Int.ofNat 26)] 1 Mode.live])[n392]?) ∧
 True) ∧
 True) ∧
 K (.int .i64 i397) M398)
 (cnd (eqF i0 (Int.ofNat 8))
 (∃ (i407 : Int),
 ∃ (M408 : Mem),
 Ret Try.prog 78 [.pointer (some (.mk p0 0 none)), .int .i64 (wrapF .i64 (Int.sub p1 (Int.ofNat 1)))] M3
 (.int .i64 i407) M408 ∧
 ∃ (i409 : Int),
 ∃ (M410 : Mem),
 Ret Try.prog 55
 [.pointer (some (.mk p0 0 none)), .int .i64 (Int.ofNat 29), .string (ByteArray.mk #[]),
 .string (ByteArray.mk #[]), .slice (some (.mk (List.length M408) 0 none)) 1 1]
 (M408 ++ [AObj.cells [.int .i64 i407] 1 Mode.live]) (.int .i64 i409) M410 ∧
 K (.int .i64 i409) M410)
 (cnd (eqF i0 (Int.ofNat 9))
 (∃ (i411 : Int),
 ∃ (M412 : Mem),
 Ret Try.prog 97 [.pointer (some (.mk p0 0 none)), .int .i64 (wrapF .i64 (Int.sub p1 (Int.ofNat 1)))] M3
 (.int .i64 i411) M412 ∧
 ∃ (i413 : Int),
 ∃ (M414 : Mem),
 Ret Try.prog 79 [.pointer (some (.mk p0 0 none)), .int .i64 (wrapF .i64 (Int.sub p1 (Int.ofNat 1)))] M412
 (.int .i64 i413) M414 ∧
 ∃ (i415 : Int),
 ∃ (M416 : Mem),
 Ret Try.prog 55
 [.pointer (some (.mk p0 0 none)), .int .i64 (Int.ofNat 30), .string (ByteArray.mk #[]),
 .string (ByteArray.mk #[]), .slice (some (.mk (List.length M414) 0 none)) 2 2]
 (M414 ++ [AObj.cells [.int .i64 i411, .int .i64 i413] 1 Mode.live]) (.int .i64 i415) M416 ∧
 K (.int .i64 i415) M416)
 (∃ (i417 : Int),
 ∃ (M418 : Mem),
 Ret Try.prog 31 [.pointer (some (.mk p0 0 none)), .int .i64 (Int.ofNat 4)] M3 (.int .i64 i417) M418 ∧
 ∀ (t419 : List Value),
 TIn 135
 [(0, .pointer (some (.mk p0 0 none))), (1, .int .i64 p1), (5, .int .i64 i0), (10, .slice none 0 0),
 (11, .int .i64 i417)]
 t419 →
 ∃ (a420 : Option Addr),
 ∃ (n421 : Nat),
 ∃ (n422 : Nat),
 ∃ (M423 : Mem),
 LpT Try.prog (Env.fn 78) [1, 1, 1, 1, 1, 0, 1, 0] t419 [] M418 false (.exit 1) [(10, .slice a420 n421 n422)] M423 ∧
 ∀ (w424 : Nat → Value),
 ∃ (i425 : Int),
 binA Try.prog BinOp.rem 3 (Operand.tmp 129) (Operand.const (.int .i64 (Int.ofNat 2))) (.int .i64 i0)
 (.int .i64 (Int.ofNat 2)) =
 some (Value.int .i64 i425) ∧
 ∃ (n426 : Nat),
 ∃ (n427 : Nat),
 idxA Try.prog 22 (.slice (some (.mk (List.length M423) 0 none)) 2 2) (.int .i64 i425) =
 some (.pointer (some (.mk n426 n427 none))) ∧
 ∃ (i428 : Int),
 rdVar Try.prog
 (M423 ++ [AObj.cells [.int .i64 (Int.ofNat 27), .int .i64 (Int.ofNat 28)] 1 Mode.live]) 3
 n426 n427 =
 some (Value.int .i64 i428) ∧
 ∃ (i429 : Int),
 ∃ (M430 : Mem),
 Ret Try.prog 55
 [.pointer (some (.mk p0 0 none)), .int .i64 i428, .string (ByteArray.mk #[]),
 .string (ByteArray.mk #[]), .slice a420 n421 n422]
 (M423 ++ [AObj.cells [.int .i64 (Int.ofNat 27), .int .i64 (Int.ofNat 28)] 1 Mode.live])
 (.int .i64 i429) M430 ∧
 K (.int .i64 i429) M430)))))))))))) :
 Held (wpRet Try.prog 78 true ann78 [.pointer (some (.mk p0 0 none)), .int .i64 p1] M K) := held_of (by kernel_rfl) h
theorem loop78_0 {ut0 ut0o : Nat} {ut1 ut5 : Int} {d : List ADef} {rc : Bool} (Inv : Nat → Option Addr → Nat → Nat → Int → Mem → Prop) (R0 : Option Addr → Nat → Nat → Mem → Prop)
 (step : ∀ (n : Nat) (t10 : Option Addr) (t10n t10c : Nat) (t11 : Int) (M : Mem), Inv n t10 t10n t10c t11 M →
 cnd (!leF t11 (Int.ofNat 0))
 (∃ (i0 : Int),
 ∃ (M1 : Mem),
 Ret Try.prog 78 [.pointer (some (.mk ut0 ut0o none)), .int .i64 (wrapF .i64 (Int.sub ut1 (Int.ofNat 1)))] M (.int .i64 i0) M1 ∧
 ∃ (a2 : Option Addr),
 ∃ (n3 : Nat),
 ∃ (n4 : Nat),
 ∃ (M5 : Mem),
 appendA Try.prog (M1 ++ [AObj.cells [.int .i64 i0] 1 Mode.live]) 22 22 (.slice t10 t10n t10c) (.slice (some (.mk (List.length M1) 0 none)) 1 1) =
 some (Value.slice a2 n3 n4, M5) ∧
 ∃ (n6 : Nat), n6 < n ∧ Inv n6 a2 n3 n4 (wrapF .i64 (Int.sub t11 (Int.ofNat 1))) M5)
 (R0 t10 t10n t10c M) )
 {n : Nat} {t10 : Option Addr} {t10n t10c : Nat} {t11 : Int} {M : Mem} (h0 : Inv n t10 t10n t10c t11 M) {t0 : List Value} (hT : TIn 135 [(0, .pointer (some (.mk ut0 ut0o none))), (1, .int .i64 ut1), (5, .int .i64 ut5), (10, .slice t10 t10n t10c), (11, .int .i64 t11)] t0) :
 (∃ (ot10 : Option Addr) (ot10n ot10c : Nat) (M' : Mem), LpT Try.prog (Env.fn 78) [1, 1, 1, 1, 1, 0, 1, 0] t0 d M rc (.exit 1) [(10, .slice ot10 ot10n ot10c)] M' ∧ R0 ot10 ot10n ot10c M') := by
 rcases loopT (P := Try.prog) (E := (Env.fn 78)) (sym := true) (ann := ann78) (p := [1, 1, 1, 1, 1, 0, 1, 0]) (stepC (codeOf Try.prog 78 [1, 1, 1, 1, 1, 0, 1, 0]) 0) (by kernel_rfl) (by kernel_rfl) [(0, .pointer (some (.mk ut0 ut0o none))), (1, .int .i64 ut1), (5, .int .i64 ut5)] [10, 11] (by kernel_rfl) (fun n xs M => match xs with | [.slice t10 t10n t10c, .int .i64 t11] => Inv n t10 t10n t10c t11 M | _ => False) [((.exit 1), [10], fun xs M => match xs with | [.slice ot10 ot10n ot10c] => R0 ot10 ot10n ot10c M | _ => False)] (fun n xs M h uu => by split at h <;> first | exact h.elim | exact (held_of (by kernel_rfl) (step n _ _ _ _ M h)).ok) (xs := [.slice t10 t10n t10c, .int .i64 t11]) hT rfl h0 with ⟨_, _, h, g⟩
 · split at g <;> first | exact ⟨_, _, _, _, h, g⟩ | exact g.elim

theorem w82 {p0 : Nat} {p1 : Int} {M : Mem} {K : Value → Mem → Prop} (h : ∃ (a0 : Option Addr),
 ∃ (n1 : Nat),
 ∃ (n2 : Nat),
 ∃ (M3 : Mem),
 Ret Try.prog 68 [] M (.slice a0 n1 n2) M3 ∧
 ∃ (i4 : Int),
 ∃ (M5 : Mem),
 Ret Try.prog 31 [.pointer (some (.mk p0 0 none)), .int .i64 (Int.ofNat n1)] M3 (.int .i64 i4) M5 ∧
 ∃ (n6 : Nat),
 ∃ (n7 : Nat),
 idxA Try.prog 53 (.slice a0 n1 n2) (.int .i64 i4) = some (.pointer (some (.mk n6 n7 none))) ∧
 ∃ (s8 : ByteArray),
 rdVar Try.prog M5 9 n6 n7 = some (.string s8) ∧
 ∃ (i9 : Int),
 ∃ (M10 : Mem),
 Ret Try.prog 66 [.string s8] M5 (.int .i64 i9) M10 ∧
 ∀ (t11 : List Value),
 TIn 61
 [(0, .pointer (some (.mk p0 0 none))), (1, .int .i64 p1), (6, .string s8), (7, .slice none 0 0),
 (8, .int .i64 i9)]
 t11 →
 ∃ (a12 : Option Addr),
 ∃ (n13 : Nat),
 ∃ (n14 : Nat),
 ∃ (M15 : Mem),
 LpT Try.prog (Env.fn 82) [1, 1, 1, 1, 0, 1, 0] t11 [] M10 false (.exit 0) [(7, .slice a12 n13 n14)] M15 ∧
 ∀ (w16 : Nat → Value),
 ∃ (i17 : Int),
 ∃ (M18 : Mem),
 Ret Try.prog 55
 [.pointer (some (.mk p0 0 none)), .int .i64 (Int.ofNat 12), .string s8, .string (ByteArray.mk #[]),
 .slice a12 n13 n14]
 M15 (.int .i64 i17) M18 ∧
 K (.int .i64 i17) M18) :
 Held (wpRet Try.prog 82 true ann82 [.pointer (some (.mk p0 0 none)), .int .i64 p1] M K) := held_of (by kernel_rfl) h
theorem loop82_0 {ut0 ut0o : Nat} {ut1 : Int} {ut6 : ByteArray} {d : List ADef} {rc : Bool} (Inv : Nat → Option Addr → Nat → Nat → Int → Mem → Prop) (R0 : Option Addr → Nat → Nat → Mem → Prop)
 (step : ∀ (n : Nat) (t7 : Option Addr) (t7n t7c : Nat) (t8 : Int) (M : Mem), Inv n t7 t7n t7c t8 M →
 cnd (!leF t8 (Int.ofNat 0))
 (cnd (eqF (Int.ofNat t7n) (Int.ofNat 1))
 (cnd (eqS ut6 (ByteArray.mk #[103, 101, 116]))
 (∃ (i0 : Int),
 ∃ (M1 : Mem),
 Ret Try.prog 31 [.pointer (some (.mk ut0 ut0o none)), .int .i64 (Int.ofNat 4)] M (.int .i64 i0) M1 ∧
 cnd (!leF i0 (Int.ofNat 0))
 (∃ (s2 : ByteArray),
 ∃ (M3 : Mem),
 Ret Try.prog 99 [.pointer (some (.mk ut0 ut0o none))] M1 (.string s2) M3 ∧
 ∃ (i4 : Int),
 ∃ (M5 : Mem),
 Ret Try.prog 55
 [.pointer (some (.mk ut0 ut0o none)), .int .i64 (Int.ofNat 1), .string s2, .string (ByteArray.mk #[]), .slice none 0 0] M3
 (.int .i64 i4) M5 ∧
 ∃ (a6 : Option Addr),
 ∃ (n7 : Nat),
 ∃ (n8 : Nat),
 ∃ (M9 : Mem),
 appendA Try.prog (M5 ++ [AObj.cells [.int .i64 i4] 1 Mode.live]) 22 22 (.slice t7 t7n t7c)
 (.slice (some (.mk (List.length M5) 0 none)) 1 1) =
 some (Value.slice a6 n7 n8, M9) ∧
 ∃ (n10 : Nat), n10 < n ∧ Inv n10 a6 n7 n8 (wrapF .i64 (Int.sub t8 (Int.ofNat 1))) M9)
 (∃ (i11 : Int),
 ∃ (M12 : Mem),
 Ret Try.prog 53 [.pointer (some (.mk ut0 ut0o none)), .int .i64 (wrapF .i64 (Int.sub ut1 (Int.ofNat 1)))] M1 (.int .i64 i11) M12 ∧
 ∃ (a13 : Option Addr),
 ∃ (n14 : Nat),
 ∃ (n15 : Nat),
 ∃ (M16 : Mem),
 appendA Try.prog (M12 ++ [AObj.cells [.int .i64 i11] 1 Mode.live]) 22 22 (.slice t7 t7n t7c)
 (.slice (some (.mk (List.length M12) 0 none)) 1 1) =
 some (Value.slice a13 n14 n15, M16) ∧
 ∃ (n17 : Nat), n17 < n ∧ Inv n17 a13 n14 n15 (wrapF .i64 (Int.sub t8 (Int.ofNat 1))) M16))
 (cnd (eqS ut6 (ByteArray.mk #[104, 97, 115]))
 (∃ (i18 : Int),
 ∃ (M19 : Mem),
 Ret Try.prog 31 [.pointer (some (.mk ut0 ut0o none)), .int .i64 (Int.ofNat 4)] M (.int .i64 i18) M19 ∧
 cnd (!leF i18 (Int.ofNat 0))
 (∃ (s20 : ByteArray),
 ∃ (M21 : Mem),
 Ret Try.prog 99 [.pointer (some (.mk ut0 ut0o none))] M19 (.string s20) M21 ∧
 ∃ (i22 : Int),
 ∃ (M23 : Mem),
 Ret Try.prog 55
 [.pointer (some (.mk ut0 ut0o none)), .int .i64 (Int.ofNat 1), .string s20, .string (ByteArray.mk #[]), .slice none 0 0] M21
 (.int .i64 i22) M23 ∧
 ∃ (a24 : Option Addr),
 ∃ (n25 : Nat),
 ∃ (n26 : Nat),
 ∃ (M27 : Mem),
 appendA Try.prog (M23 ++ [AObj.cells [.int .i64 i22] 1 Mode.live]) 22 22 (.slice t7 t7n t7c)
 (.slice (some (.mk (List.length M23) 0 none)) 1 1) =
 some (Value.slice a24 n25 n26, M27) ∧
 ∃ (n28 : Nat), n28 < n ∧ Inv n28 a24 n25 n26 (wrapF .i64 (Int.sub t8 (Int.ofNat 1))) M27)
 (∃ (i29 : Int),
 ∃ (M30 : Mem),
 Ret Try.prog 53 [.pointer (some (.mk ut0 ut0o none)), .int .i64 (wrapF .i64 (Int.sub ut1 (Int.ofNat 1)))] M19 (.int .i64 i29)
 M30 ∧
 ∃ (a31 : Option Addr),
 ∃ (n32 : Nat),
 ∃ (n33 : Nat),
 ∃ (M34 : Mem),
 appendA Try.prog (M30 ++ [AObj.cells [.int .i64 i29] 1 Mode.live]) 22 22 (.slice t7 t7n t7c)
 (.slice (some (.mk (List.length M30) 0 none)) 1 1) =
 some (Value.slice a31 n32 n33, M34) ∧
 ∃ (n35 : Nat), n35 < n ∧ Inv n35 a31 n32 n33 (wrapF .i64 (Int.sub t8 (Int.ofNat 1))) M34))
 (cnd (eqS ut6 (ByteArray.mk #[115, 101, 116]))
 (∃ (i36 : Int),
 ∃ (M37 : Mem),
 Ret Try.prog 31 [.pointer (some (.mk ut0 ut0o none)), .int .i64 (Int.ofNat 4)] M (.int .i64 i36) M37 ∧
 cnd (!leF i36 (Int.ofNat 0))
 (∃ (s38 : ByteArray),
 ∃ (M39 : Mem),
 Ret Try.prog 99 [.pointer (some (.mk ut0 ut0o none))] M37 (.string s38) M39 ∧
 ∃ (i40 : Int),
 ∃ (M41 : Mem),
 Ret Try.prog 55
 [.pointer (some (.mk ut0 ut0o none)), .int .i64 (Int.ofNat 1), .string s38, .string (ByteArray.mk #[]), .slice none 0 0]
 M39 (.int .i64 i40) M41 ∧
 ∃ (a42 : Option Addr),
 ∃ (n43 : Nat),
 ∃ (n44 : Nat),
 ∃ (M45 : Mem),
 appendA Try.prog (M41 ++ [AObj.cells [.int .i64 i40] 1 Mode.live]) 22 22 (.slice t7 t7n t7c)
 (.slice (some (.mk (List.length M41) 0 none)) 1 1) =
 some (Value.slice a42 n43 n44, M45) ∧
 ∃ (n46 : Nat), n46 < n ∧ Inv n46 a42 n43 n44 (wrapF .i64 (Int.sub t8 (Int.ofNat 1))) M45)
 (∃ (i47 : Int),
 ∃ (M48 : Mem),
 Ret Try.prog 53 [.pointer (some (.mk ut0 ut0o none)), .int .i64 (wrapF .i64 (Int.sub ut1 (Int.ofNat 1)))] M37 (.int .i64 i47)
 M48 ∧
 ∃ (a49 : Option Addr),
 ∃ (n50 : Nat),
 ∃ (n51 : Nat),
 ∃ (M52 : Mem),
 appendA Try.prog (M48 ++ [AObj.cells [.int .i64 i47] 1 Mode.live]) 22 22 (.slice t7 t7n t7c)
 (.slice (some (.mk (List.length M48) 0 none)) 1 1) =
 some (Value.slice a49 n50 n51, M52) ∧
 ∃ (n53 : Nat), n53 < n ∧ Inv n53 a49 n50 n51 (wrapF .i64 (Int.sub t8 (Int.ofNat 1))) M52))
 (∃ (i54 : Int),
 ∃ (M55 : Mem),
 Ret Try.prog 53 [.pointer (some (.mk ut0 ut0o none)), .int .i64 (wrapF .i64 (Int.sub ut1 (Int.ofNat 1)))] M (.int .i64 i54) M55 ∧
 ∃ (a56 : Option Addr),
 ∃ (n57 : Nat),
 ∃ (n58 : Nat),
 ∃ (M59 : Mem),
 appendA Try.prog (M55 ++ [AObj.cells [.int .i64 i54] 1 Mode.live]) 22 22 (.slice t7 t7n t7c)
 (.slice (some (.mk (List.length M55) 0 none)) 1 1) =
 some (Value.slice a56 n57 n58, M59) ∧
 ∃ (n60 : Nat), n60 < n ∧ Inv n60 a56 n57 n58 (wrapF .i64 (Int.sub t8 (Int.ofNat 1))) M59))))
 (∃ (i61 : Int),
 ∃ (M62 : Mem),
 Ret Try.prog 53 [.pointer (some (.mk ut0 ut0o none)), .int .i64 (wrapF .i64 (Int.sub ut1 (Int.ofNat 1)))] M (.int .i64 i61) M62 ∧
 ∃ (a63 : Option Addr),
 ∃ (n64 : Nat),
 ∃ (n65 : Nat),
 ∃ (M66 : Mem),
 appendA Try.prog (M62 ++ [AObj.cells [.int .i64 i61] 1 Mode.live]) 22 22 (.slice t7 t7n t7c) (.slice (some (.mk (List.length M62) 0 none)) 1 1) =
 some (Value.slice a63 n64 n65, M66) ∧
 ∃ (n67 : Nat), n67 < n ∧ Inv n67 a63 n64 n65 (wrapF .i64 (Int.sub t8 (Int.ofNat 1))) M66))
 (R0 t7 t7n t7c M) )
 {n : Nat} {t7 : Option Addr} {t7n t7c : Nat} {t8 : Int} {M : Mem} (h0 : Inv n t7 t7n t7c t8 M) {t0 : List Value} (hT : TIn 61 [(0, .pointer (some (.mk ut0 ut0o none))), (1, .int .i64 ut1), (6, .string ut6), (7, .slice t7 t7n t7c), (8, .int .i64 t8)] t0) :
 (∃ (ot7 : Option Addr) (ot7n ot7c : Nat) (M' : Mem), LpT Try.prog (Env.fn 82) [1, 1, 1, 1, 0, 1, 0] t0 d M rc (.exit 0) [(7, .slice ot7 ot7n ot7c)] M' ∧ R0 ot7 ot7n ot7c M') := by
 rcases loopT (P := Try.prog) (E := (Env.fn 82)) (sym := true) (ann := ann82) (p := [1, 1, 1, 1, 0, 1, 0]) (stepC (codeOf Try.prog 82 [1, 1, 1, 1, 0, 1, 0]) 0) (by kernel_rfl) (by kernel_rfl) [(0, .pointer (some (.mk ut0 ut0o none))), (1, .int .i64 ut1), (6, .string ut6)] [7, 8] (by kernel_rfl) (fun n xs M => match xs with | [.slice t7 t7n t7c, .int .i64 t8] => Inv n t7 t7n t7c t8 M | _ => False) [((.exit 0), [7], fun xs M => match xs with | [.slice ot7 ot7n ot7c] => R0 ot7 ot7n ot7c M | _ => False)] (fun n xs M h uu => by split at h <;> first | exact h.elim | exact (held_of (by kernel_rfl) (step n _ _ _ _ M h)).ok) (xs := [.slice t7 t7n t7c, .int .i64 t8]) hT rfl h0 with ⟨_, _, h, g⟩
 · split at g <;> first | exact ⟨_, _, _, _, h, g⟩ | exact g.elim

theorem w83 {p0 : Nat} {p1 : Int} {M : Mem} {K : Value → Mem → Prop} (h : ∃ (i0 : Int),
 ∃ (M1 : Mem),
 Ret Try.prog 31 [.pointer (some (.mk p0 0 none)), .int .i64 (Int.ofNat 4)] M (.int .i64 i0) M1 ∧
 ∀ (t2 : List Value),
 TIn 29 [(0, .pointer (some (.mk p0 0 none))), (1, .int .i64 p1), (5, .slice none 0 0), (6, .int .i64 i0)] t2 →
 ∃ (a3 : Option Addr),
 ∃ (n4 : Nat),
 ∃ (n5 : Nat),
 ∃ (M6 : Mem),
 LpT Try.prog (Env.fn 83) [1, 1, 0, 1, 0] t2 [] M1 false (.exit 0) [(5, .slice a3 n4 n5)] M6 ∧
 ∀ (w7 : Nat → Value),
 ∃ (i8 : Int),
 ∃ (M9 : Mem),
 Ret Try.prog 55
 [.pointer (some (.mk p0 0 none)), .int .i64 (Int.ofNat 10), .string (ByteArray.mk #[]), .string (ByteArray.mk #[]),
 .slice a3 n4 n5]
 M6 (.int .i64 i8) M9 ∧
 K (.int .i64 i8) M9) :
 Held (wpRet Try.prog 83 true ann83 [.pointer (some (.mk p0 0 none)), .int .i64 p1] M K) := held_of (by kernel_rfl) h
theorem loop83_0 {ut0 ut0o : Nat} {ut1 : Int} {d : List ADef} {rc : Bool} (Inv : Nat → Option Addr → Nat → Nat → Int → Mem → Prop) (R0 : Option Addr → Nat → Nat → Mem → Prop)
 (step : ∀ (n : Nat) (t5 : Option Addr) (t5n t5c : Nat) (t6 : Int) (M : Mem), Inv n t5 t5n t5c t6 M →
 cnd (!leF t6 (Int.ofNat 0))
 (∃ (s0 : ByteArray),
 ∃ (M1 : Mem),
 Ret Try.prog 99 [.pointer (some (.mk ut0 ut0o none))] M (.string s0) M1 ∧
 ∃ (i2 : Int),
 ∃ (M3 : Mem),
 Ret Try.prog 55 [.pointer (some (.mk ut0 ut0o none)), .int .i64 (Int.ofNat 1), .string s0, .string (ByteArray.mk #[]), .slice none 0 0] M1
 (.int .i64 i2) M3 ∧
 ∃ (i4 : Int),
 ∃ (M5 : Mem),
 Ret Try.prog 53 [.pointer (some (.mk ut0 ut0o none)), .int .i64 (wrapF .i64 (Int.sub ut1 (Int.ofNat 1)))] M3 (.int .i64 i4) M5 ∧
 ∃ (a6 : Option Addr),
 ∃ (n7 : Nat),
 ∃ (n8 : Nat),
 ∃ (M9 : Mem),
 appendA Try.prog (M5 ++ [AObj.cells [.int .i64 i2, .int .i64 i4] 1 Mode.live]) 22 22 (.slice t5 t5n t5c)
 (.slice (some (.mk (List.length M5) 0 none)) 2 2) =
 some (Value.slice a6 n7 n8, M9) ∧
 ∃ (n10 : Nat), n10 < n ∧ Inv n10 a6 n7 n8 (wrapF .i64 (Int.sub t6 (Int.ofNat 1))) M9)
 (R0 t5 t5n t5c M) )
 {n : Nat} {t5 : Option Addr} {t5n t5c : Nat} {t6 : Int} {M : Mem} (h0 : Inv n t5 t5n t5c t6 M) {t0 : List Value} (hT : TIn 29 [(0, .pointer (some (.mk ut0 ut0o none))), (1, .int .i64 ut1), (5, .slice t5 t5n t5c), (6, .int .i64 t6)] t0) :
 (∃ (ot5 : Option Addr) (ot5n ot5c : Nat) (M' : Mem), LpT Try.prog (Env.fn 83) [1, 1, 0, 1, 0] t0 d M rc (.exit 0) [(5, .slice ot5 ot5n ot5c)] M' ∧ R0 ot5 ot5n ot5c M') := by
 rcases loopT (P := Try.prog) (E := (Env.fn 83)) (sym := true) (ann := ann83) (p := [1, 1, 0, 1, 0]) (stepC (codeOf Try.prog 83 [1, 1, 0, 1, 0]) 0) (by kernel_rfl) (by kernel_rfl) [(0, .pointer (some (.mk ut0 ut0o none))), (1, .int .i64 ut1)] [5, 6] (by kernel_rfl) (fun n xs M => match xs with | [.slice t5 t5n t5c, .int .i64 t6] => Inv n t5 t5n t5c t6 M | _ => False) [((.exit 0), [5], fun xs M => match xs with | [.slice ot5 ot5n ot5c] => R0 ot5 ot5n ot5c M | _ => False)] (fun n xs M h uu => by split at h <;> first | exact h.elim | exact (held_of (by kernel_rfl) (step n _ _ _ _ M h)).ok) (xs := [.slice t5 t5n t5c, .int .i64 t6]) hT rfl h0 with ⟨_, _, h, g⟩
 · split at g <;> first | exact ⟨_, _, _, _, h, g⟩ | exact g.elim

theorem w11 {p0 : Option Addr} {p0n p0c : Nat} {M : Mem} {K : Value → Mem → Prop} (h : ∃ (i0 : Int),
 ∃ (M1 : Mem),
 Ret Try.prog 31 [.pointer (some (.mk (List.length (M ++ [AObj.cells [.slice none 0 0, .slice none 0 0] 2 Mode.live])) 0 none)), .int .i64 (Int.ofNat 3)]
 (M ++ [AObj.cells [.slice none 0 0, .slice none 0 0] 2 Mode.live] ++
 [AObj.cells [.slice p0 p0n p0c, .int .i64 (Int.ofNat 0), .slice none 0 0, .slice none 0 0, .slice none 0 0, .slice none 0 0] 6 Mode.live])
 (.int .i64 i0) M1 ∧
 ∃ (i2 : Int),
 ∃ (M3 : Mem),
 Ret Try.prog 31
 [.pointer (some (.mk (List.length (M ++ [AObj.cells [.slice none 0 0, .slice none 0 0] 2 Mode.live])) 0 none)), .int .i64 (Int.ofNat 16)] M1
 (.int .i64 i2) M3 ∧
 cnd (eqF i2 (Int.ofNat 15))
 (∀ (t4 : List Value),
 TIn 74
 [(2, .pointer (some (.mk (List.length M) 0 none))),
 (3, .pointer (some (.mk (List.length (M ++ [AObj.cells [.slice none 0 0, .slice none 0 0] 2 Mode.live])) 0 none))),
 (4, .int .i64 (wrapF .i64 (Int.add (Int.ofNat 1) i0))), (5, .string (ByteArray.mk #[111, 116, 104, 101, 114])),
 (6, .int .i64 (Int.ofNat 0))]
 t4 →
 ∃ (M5 : Mem),
 LpT Try.prog (Env.fn 11) [1, 1, 1, 1, 1, 0, 1, 0] t4 [] M3 false (.exit 0) [] M5 ∧
 ∀ (w6 : Nat → Value) (t7 : List Value),
 TIn 74
 [(2, .pointer (some (.mk (List.length M) 0 none))),
 (3, .pointer (some (.mk (List.length (M ++ [AObj.cells [.slice none 0 0, .slice none 0 0] 2 Mode.live])) 0 none))),
 (4, .int .i64 (wrapF .i64 (Int.add (Int.ofNat 1) i0))), (8, .int .i64 (Int.ofNat 0))]
 t7 →
 ∃ (M8 : Mem),
 LpT Try.prog (Env.fn 11) [1, 1, 1, 1, 1, 1, 0, 1, 0] t7 [] M5 false (.exit 2) [] M8 ∧
 ∀ (w9 : Nat → Value),
 ∃ (a10 : Option Addr),
 ∃ (n11 : Nat),
 ∃ (n12 : Nat),
 ∃ (a13 : Option Addr),
 ∃ (n14 : Nat),
 ∃ (n15 : Nat),
 rdVar Try.prog M8 32 (List.length (M ++ [AObj.cells [.slice none 0 0, .slice none 0 0] 2 Mode.live])) 2 =
 some (Value.agg (Array.mk [.slice a10 n11 n12, .slice a13 n14 n15])) ∧
 ∃ (M16 : Mem),
 wrCells M8 (List.length M) 0 [.slice a10 n11 n12, .slice a13 n14 n15] = some M16 ∧
 ∃ (a17 : Option Addr),
 ∃ (n18 : Nat),
 ∃ (n19 : Nat),
 ∃ (a20 : Option Addr),
 ∃ (n21 : Nat),
 ∃ (n22 : Nat),
 rdVar Try.prog M16 32 (List.length M) 0 = some (.agg (Array.mk [.slice a17 n18 n19, .slice a20 n21 n22])) ∧
 K (.agg (Array.mk [.slice a17 n18 n19, .slice a20 n21 n22])) M16)
 (∀ (t23 : List Value),
 TIn 74
 [(2, .pointer (some (.mk (List.length M) 0 none))),
 (3, .pointer (some (.mk (List.length (M ++ [AObj.cells [.slice none 0 0, .slice none 0 0] 2 Mode.live])) 0 none))),
 (4, .int .i64 (wrapF .i64 (Int.add (Int.ofNat 1) i0))), (5, .string (ByteArray.mk #[109, 97, 105, 110])),
 (6, .int .i64 (Int.ofNat 0))]
 t23 →
 ∃ (M24 : Mem),
 LpT Try.prog (Env.fn 11) [1, 1, 1, 1, 1, 0, 1, 0] t23 [] M3 false (.exit 0) [] M24 ∧
 ∀ (w25 : Nat → Value) (t26 : List Value),
 TIn 74
 [(2, .pointer (some (.mk (List.length M) 0 none))),
 (3, .pointer (some (.mk (List.length (M ++ [AObj.cells [.slice none 0 0, .slice none 0 0] 2 Mode.live])) 0 none))),
 (4, .int .i64 (wrapF .i64 (Int.add (Int.ofNat 1) i0))), (8, .int .i64 (Int.ofNat 0))]
 t26 →
 ∃ (M27 : Mem),
 LpT Try.prog (Env.fn 11) [1, 1, 1, 1, 1, 1, 0, 1, 0] t26 [] M24 false (.exit 2) [] M27 ∧
 ∀ (w28 : Nat → Value),
 ∃ (a29 : Option Addr),
 ∃ (n30 : Nat),
 ∃ (n31 : Nat),
 ∃ (a32 : Option Addr),
 ∃ (n33 : Nat),
 ∃ (n34 : Nat),
 rdVar Try.prog M27 32 (List.length (M ++ [AObj.cells [.slice none 0 0, .slice none 0 0] 2 Mode.live])) 2 =
 some (Value.agg (Array.mk [.slice a29 n30 n31, .slice a32 n33 n34])) ∧
 ∃ (M35 : Mem),
 wrCells M27 (List.length M) 0 [.slice a29 n30 n31, .slice a32 n33 n34] = some M35 ∧
 ∃ (a36 : Option Addr),
 ∃ (n37 : Nat),
 ∃ (n38 : Nat),
 ∃ (a39 : Option Addr),
 ∃ (n40 : Nat),
 ∃ (n41 : Nat),
 rdVar Try.prog M35 32 (List.length M) 0 = some (.agg (Array.mk [.slice a36 n37 n38, .slice a39 n40 n41])) ∧
 K (.agg (Array.mk [.slice a36 n37 n38, .slice a39 n40 n41])) M35)) :
 Held (wpRet Try.prog 11 true ann11 [.slice p0 p0n p0c] M K) := held_of (by kernel_rfl) h
theorem loop11_0 {ut2 ut2o ut3 ut3o : Nat} {ut4 : Int} {ut5 : ByteArray} {d : List ADef} {rc : Bool} (Inv : Nat → Int → Mem → Prop) (R0 : Mem → Prop)
 (step : ∀ (n : Nat) (t6 : Int) (M : Mem), Inv n t6 M →
 cnd (!leF ut4 t6)
 (∃ (i0 : Int),
 binA Try.prog BinOp.rem 3 (Operand.tmp 25) (Operand.const (.int .i64 (Int.ofNat 2))) (.int .i64 t6) (.int .i64 (Int.ofNat 2)) =
 some (Value.int .i64 i0) ∧
 ∃ (n1 : Nat),
 ∃ (n2 : Nat),
 idxA Try.prog 53 (.slice (some (.mk (List.length M) 0 none)) 2 2) (.int .i64 i0) = some (.pointer (some (.mk n1 n2 none))) ∧
 ∃ (s3 : ByteArray),
 rdVar Try.prog (M ++ [AObj.cells [.string (ByteArray.mk #[102, 49]), .string (ByteArray.mk #[103, 49])] 1 Mode.live]) 9 n1 n2 = some (.string s3) ∧
 cnd (eqF t6 (wrapF .i64 (Int.sub ut4 (Int.ofNat 1))))
 (∃ (a4 : Option Addr),
 ∃ (n5 : Nat),
 ∃ (n6 : Nat),
 rdVar Try.prog (M ++ [AObj.cells [.string (ByteArray.mk #[102, 49]), .string (ByteArray.mk #[103, 49])] 1 Mode.live]) 53 ut3
 (Nat.succ (Nat.succ (Nat.succ (Nat.succ ut3o)))) =
 some (Value.slice a4 n5 n6) ∧
 ∃ (a7 : Option Addr),
 ∃ (n8 : Nat),
 ∃ (n9 : Nat),
 ∃ (M10 : Mem),
 appendA Try.prog
 (M ++ [AObj.cells [.string (ByteArray.mk #[102, 49]), .string (ByteArray.mk #[103, 49])] 1 Mode.live] ++
 [AObj.cells [.string ut5] 1 Mode.live])
 53 53 (.slice a4 n5 n6)
 (.slice
 (some
 (.mk (List.length (M ++ [AObj.cells [.string (ByteArray.mk #[102, 49]), .string (ByteArray.mk #[103, 49])] 1 Mode.live])) 0 none))
 1 1) =
 some (Value.slice a7 n8 n9, M10) ∧
 ∃ (M11 : Mem),
 wrCells M10 ut3 (Nat.succ (Nat.succ (Nat.succ (Nat.succ ut3o)))) [.slice a7 n8 n9] = some M11 ∧
 ∃ (n12 : Nat), n12 < n ∧ Inv n12 (wrapF .i64 (Int.add t6 (Int.ofNat 1))) M11)
 (∃ (a13 : Option Addr),
 ∃ (n14 : Nat),
 ∃ (n15 : Nat),
 rdVar Try.prog (M ++ [AObj.cells [.string (ByteArray.mk #[102, 49]), .string (ByteArray.mk #[103, 49])] 1 Mode.live]) 53 ut3
 (Nat.succ (Nat.succ (Nat.succ (Nat.succ ut3o)))) =
 some (Value.slice a13 n14 n15) ∧
 ∃ (a16 : Option Addr),
 ∃ (n17 : Nat),
 ∃ (n18 : Nat),
 ∃ (M19 : Mem),
 appendA Try.prog
 (M ++ [AObj.cells [.string (ByteArray.mk #[102, 49]), .string (ByteArray.mk #[103, 49])] 1 Mode.live] ++
 [AObj.cells [.string s3] 1 Mode.live])
 53 53 (.slice a13 n14 n15)
 (.slice
 (some
 (.mk (List.length (M ++ [AObj.cells [.string (ByteArray.mk #[102, 49]), .string (ByteArray.mk #[103, 49])] 1 Mode.live])) 0 none))
 1 1) =
 some (Value.slice a16 n17 n18, M19) ∧
 ∃ (M20 : Mem),
 wrCells M19 ut3 (Nat.succ (Nat.succ (Nat.succ (Nat.succ ut3o)))) [.slice a16 n17 n18] = some M20 ∧
 ∃ (n21 : Nat), n21 < n ∧ Inv n21 (wrapF .i64 (Int.add t6 (Int.ofNat 1))) M20))
 (R0 M) )
 {n : Nat} {t6 : Int} {M : Mem} (h0 : Inv n t6 M) {t0 : List Value} (hT : TIn 74 [(2, .pointer (some (.mk ut2 ut2o none))), (3, .pointer (some (.mk ut3 ut3o none))), (4, .int .i64 ut4), (5, .string ut5), (6, .int .i64 t6)] t0) :
 (∃ (M' : Mem), LpT Try.prog (Env.fn 11) [1, 1, 1, 1, 1, 0, 1, 0] t0 d M rc (.exit 0) [] M' ∧ R0 M') := by
 rcases loopT (P := Try.prog) (E := (Env.fn 11)) (sym := true) (ann := ann11) (p := [1, 1, 1, 1, 1, 0, 1, 0]) (stepC (codeOf Try.prog 11 [1, 1, 1, 1, 1, 0, 1, 0]) 0) (by kernel_rfl) (by kernel_rfl) [(2, .pointer (some (.mk ut2 ut2o none))), (3, .pointer (some (.mk ut3 ut3o none))), (4, .int .i64 ut4), (5, .string ut5)] [6] (by kernel_rfl) (fun n xs M => match xs with | [.int .i64 t6] => Inv n t6 M | _ => False) [((.exit 0), [], fun xs M => match xs with | [] => R0 M | _ => False)] (fun n xs M h uu => by split at h <;> first | exact h.elim | exact (held_of (by kernel_rfl) (step n _ M h)).ok) (xs := [.int .i64 t6]) hT rfl h0 with ⟨_, _, h, g⟩
 · split at g <;> first | exact ⟨_, h, g⟩ | exact g.elim

theorem loop11_1 {ut2 ut2o ut3 ut3o : Nat} {ut4 : Int} {d : List ADef} {rc : Bool} (Inv : Nat → Int → Mem → Prop) (R0 : Mem → Prop)
 (step : ∀ (n : Nat) (t8 : Int) (M : Mem), Inv n t8 M →
 cnd (!leF ut4 t8)
 (∃ (a0 : Option Addr),
 ∃ (n1 : Nat),
 ∃ (n2 : Nat),
 rdVar Try.prog M 53 ut3 (Nat.succ (Nat.succ (Nat.succ (Nat.succ ut3o)))) = some (.slice a0 n1 n2) ∧
 ∃ (n3 : Nat),
 ∃ (n4 : Nat),
 idxA Try.prog 53 (.slice a0 n1 n2) (.int .i64 t8) = some (.pointer (some (.mk n3 n4 none))) ∧
 ∃ (s5 : ByteArray),
 rdVar Try.prog M 9 n3 n4 = some (.string s5) ∧
 ∃ (i6 : Int),
 ∃ (M7 : Mem),
 Ret Try.prog 32 [.pointer (some (.mk ut3 ut3o none)), .int .i64 (Int.ofNat 13), .string s5, .int .i64 (Int.ofNat 8)] M
 (.int .i64 i6) M7 ∧
 ∃ (a8 : Option Addr),
 ∃ (n9 : Nat),
 ∃ (n10 : Nat),
 rdVar Try.prog M7 22 ut3 (Nat.succ (Nat.succ (Nat.succ ut3o))) = some (.slice a8 n9 n10) ∧
 ∃ (a11 : Option Addr),
 ∃ (n12 : Nat),
 ∃ (n13 : Nat),
 ∃ (M14 : Mem),
 appendA Try.prog (M7 ++ [AObj.cells [.int .i64 i6] 1 Mode.live]) 22 22 (.slice a8 n9 n10)
 (.slice (some (.mk (List.length M7) 0 none)) 1 1) =
 some (Value.slice a11 n12 n13, M14) ∧
 ∃ (M15 : Mem),
 wrCells M14 ut3 (Nat.succ (Nat.succ (Nat.succ ut3o))) [.slice a11 n12 n13] = some M15 ∧
 ∃ (n16 : Nat), n16 < n ∧ Inv n16 (wrapF .i64 (Int.add t8 (Int.ofNat 1))) M15)
 (R0 M) )
 {n : Nat} {t8 : Int} {M : Mem} (h0 : Inv n t8 M) {t0 : List Value} (hT : TIn 74 [(2, .pointer (some (.mk ut2 ut2o none))), (3, .pointer (some (.mk ut3 ut3o none))), (4, .int .i64 ut4), (8, .int .i64 t8)] t0) :
 (∃ (M' : Mem), LpT Try.prog (Env.fn 11) [1, 1, 1, 1, 1, 1, 0, 1, 0] t0 d M rc (.exit 2) [] M' ∧ R0 M') := by
 rcases loopT (P := Try.prog) (E := (Env.fn 11)) (sym := true) (ann := ann11) (p := [1, 1, 1, 1, 1, 1, 0, 1, 0]) (stepC (codeOf Try.prog 11 [1, 1, 1, 1, 1, 1, 0, 1, 0]) 0) (by kernel_rfl) (by kernel_rfl) [(2, .pointer (some (.mk ut2 ut2o none))), (3, .pointer (some (.mk ut3 ut3o none))), (4, .int .i64 ut4)] [8] (by kernel_rfl) (fun n xs M => match xs with | [.int .i64 t8] => Inv n t8 M | _ => False) [((.exit 2), [], fun xs M => match xs with | [] => R0 M | _ => False)] (fun n xs M h uu => by split at h <;> first | exact h.elim | exact (held_of (by kernel_rfl) (step n _ M h)).ok) (xs := [.int .i64 t8]) hT rfl h0 with ⟨_, _, h, g⟩
 · split at g <;> first | exact ⟨_, h, g⟩ | exact g.elim


end Go.Proofs.YtabkcbaknjenmaaAM

/-
  THE NODE LAWS: the trees that are drawn: kids in a row that grows; picks from tables.
-/
set_option linter.unusedVariables false
set_option linter.unusedSimpArgs false
namespace Go.Proofs.YtabkcbaknjenmaaAM
open Go Go.Proofs
set_option maxRecDepth 100000
set_option maxHeartbeats 4000000

theorem Keep.mod {M0 M M' : Mem} {V : List Nat} (h : Keep M0 M) (hm : Mod M M' V) (hV : ∀ y ∈ V, M0.length ≤ y) : Keep M0 M' := by
  obtain ⟨G, rfl⟩ := h
  refine ⟨M'.drop M0.length, ?_⟩
  apply List.ext_getElem?
  intro i
  have hl := hm.1
  rw [List.length_append] at hl
  by_cases hi : i < M0.length
  · rw [List.getElem?_append_left hi, hm.2 i (by rw [List.length_append]; omega) (fun hv => by have := hV i hv; omega), List.getElem?_append_left hi]
  · rw [List.getElem?_append_right (by omega), List.getElem?_drop, show M0.length + (i - M0.length) = i by omega]
/-- Reserved blocks may turn, and other ones be reserved. -/
theorem Rep.Ok.turn {Q : List Nat} {M0 M : Mem} {x : Nat} {W : List Nat} {g : GS} {r : Rep M0 Q M x W g} (h : r.Ok) {M' : Mem} {V Q' : List Nat} (hm : Mod M M' V) (hV : ∀ y ∈ V, y ∈ Q ∧ M0.length ≤ y) (hQ : ∀ y ∈ Q', (y ∈ Q ∨ M.length ≤ y) ∧ y < M'.length) :
    ∃ r' : Rep M0 Q' M' x W g, r'.Ok := by
  have hk : Keep M0 M' := h.n.1.mod hm (fun y hy => (hV y hy).2)
  have hn : ∀ y ∈ W, y ∉ V := fun y hy hv => (h.q y (hV y hv).1).1 hy
  have hw : ∀ y, y ∈ blk r.na ∨ y ∈ blk r.da ∨ y ∈ blk r.fa ∨ y ∈ blk r.ba → y ∈ W := by
    intro y hy
    rw [h.w]; simp only [List.mem_cons, List.mem_append]
    rcases hy with h | h | h | h
    · exact .inr (.inl h)
    · exact .inr (.inr (.inl h))
    · exact .inr (.inr (.inr (.inl h)))
    · exact .inr (.inr (.inr (.inr h)))
  refine ⟨⟨r.la, r.lc, r.na, r.nc, r.da, r.dc, r.fa, r.fc, r.ba, r.bc, r.cs⟩, ⟨h.hx, ?_, h.l.mod hm (fun y hy hv => by have := h.lb y hy; have := (hV y hv).2; omega), h.lb, h.n.mod hk hm (fun y hy => hn y (hw y (.inl hy))),
    h.ns.mod hm (fun y hy => List.mem_append_right _ (hV y hy).1) (fun y hy => ?_), fun y hy => ⟨fun hy' => ?_, (hQ y hy).2⟩, h.d.mod hk hm (fun y hy => hn y (hw y (.inr (.inl hy)))), h.f.mod hk hm (fun y hy => hn y (hw y (.inr (.inr (.inl hy))))), h.b.mod hk hm (fun y hy => hn y (hw y (.inr (.inr (.inr hy))))), h.bU, h.w, h.nd⟩⟩
  · rw [hm.2 x (List.getElem?_eq_some_iff.1 h.obj).1 (hn x h.xW)]; exact h.obj
  · rcases List.mem_append.1 hy with h1 | h1
    · exact .inl (List.mem_append_left _ h1)
    · rcases (hQ y h1).1 with h2 | h2
      · exact .inl (List.mem_append_right _ h2)
      · exact .inr h2
  · rcases (hQ y hy).1 with h2 | h2
    · exact (h.q y h2).1 hy'
    · have := h.wlt y hy'; omega

theorem Run.less {Q Q' : List Nat} {M0 : Mem} {x : Nat} {M M' : Mem} {W W' : List Nat} {g g' : GS} (h : Run M0 Q x M W M' W' g g') (hQ : ∀ y ∈ Q', y ∈ Q) : Run M0 Q' x M W M' W' g g' := by
  obtain ⟨r, hr⟩ := h.sim
  exact ⟨hr.turn (V := []) (.refl _ _) (by simp) (fun y hy => ⟨.inl (hQ y hy), (hr.q y (hQ y hy)).2⟩), h.mod, h.sub, h.l, h.nm, h.df⟩

/-- Kids are gathered: ks are drawn, ls are in the row. -/
structure KLoop (M0 : Mem) (Q : List Nat) (x : Nat) (M : Mem) (W : List Nat) (g : GS) (P : Nat → Nat → Prop) (H k : Nat) (M1 : Mem) (W1 : List Nat) (g1 : GS) (ks ls : List Nat) (a : Option Addr) (n c : Nat) : Prop where
  run : Run M0 Q x M W M1 W1 g g1
  sim : ∃ r : Rep M0 (blk a ++ Q) M1 x W1 g1, r.Ok
  kidz : Kidz P H k g g1 ks
  own : Own [] M1 1 a n c (ints (ls.map Int.ofNat))
  lo : ∀ y ∈ blk a, M.length ≤ y ∧ M0.length ≤ y
  bd : g1.bound = g.bound
theorem KLoop.start {Q : List Nat} {M0 M M1 : Mem} {x : Nat} {W W1 : List Nat} {g g1 : GS} (R : Run M0 Q x M W M1 W1 g g1) (P : Nat → Nat → Prop) (H : Nat) (i1 : GInv g1) (e1 : g1.ns = g.ns) (b1 : g1.bound = g.bound) :
    KLoop M0 Q x M W g P H 0 M1 W1 g1 [] [] none 0 0 :=
  ⟨R, R.sim, (Kidz.nil P H i1).base e1, ⟨⟨M1, by simp⟩, rfl, .inl ⟨rfl, rfl, rfl⟩⟩, by simp [blk], b1⟩
/-- Something else is drawn meanwhile. -/
theorem KLoop.go {Q : List Nat} {M0 M M1 : Mem} {x : Nat} {W W1 : List Nat} {g g1 : GS} {P : Nat → Nat → Prop} {H k : Nat} {ks ls : List Nat} {a : Option Addr} {n c : Nat} (h : KLoop M0 Q x M W g P H k M1 W1 g1 ks ls a n c)
    {M2 : Mem} {W2 : List Nat} {g2 : GS} {k2 : Nat} {ks2 : List Nat} (R : Run M0 (blk a ++ Q) x M1 W1 M2 W2 g1 g2) (K : Kidz P H k2 g g2 ks2) (hb : g2.bound = g.bound) : KLoop M0 Q x M W g P H k2 M2 W2 g2 ks2 ls a n c := by
  obtain ⟨r, hr⟩ := h.sim
  refine ⟨h.run.trans (R.less fun y hy => List.mem_append_right _ hy), R.sim, K, h.own.mod ⟨M2, by simp⟩ R.mod (fun y hy => (hr.q y (List.mem_append_left _ hy)).1), h.lo, hb⟩
theorem KLoop.draw {Q : List Nat} {M0 M M1 : Mem} {x : Nat} {W W1 : List Nat} {g g1 : GS} {P : Nat → Nat → Prop} {H k : Nat} {ks ls : List Nat} {a : Option Addr} {n c : Nat} (h : KLoop M0 Q x M W g P H k M1 W1 g1 ks ls a n c)
    {f : FuncId} {S : Nat → Prop} {e : Nat} (hd : DrawsI f S e) (hH : e + 2 ≤ H) (hP : ∀ kk, S kk → P ks.length kk) (hlen : g.ns.length + k + XB e ≤ 900000) (hbn : g.bound.length + e ≤ 1000) :
    ∃ j M2 W2 g2, Ret Try.prog f [.pointer (some ⟨x, 0, none⟩), .int .i64 (Int.ofNat e - 1)] M1 (.int .i64 (Int.ofNat j)) M2 ∧ KLoop M0 Q x M W g P H (k + XB e) M2 W2 g2 (ks ++ [j]) ls a n c := by
  obtain ⟨r, hr⟩ := h.sim
  obtain ⟨j, M2, W2, g2, h1, R2, K2, b2, R12⟩ := hd.step (Run.refl hr) ((Kidz.nil (fun _ kk => S kk) (e + 2) h.kidz.inv)) (Nat.le_refl _) (fun _ h => h) (by have := h.kidz.len; omega) (by rw [h.bd]; exact hbn)
  have := h.kidz.len
  obtain ⟨i, M2', h1', W2', g2', rfl, R2', m2⟩ := hd M0 _ x M1 W1 g1 r hr h.kidz.inv (by omega) (by rw [h.bd]; exact hbn)
  exact ⟨_, M2', W2', g2', h1', h.go R2' (h.kidz.snoc m2 hH hP) (m2.bd.trans h.bd)⟩
theorem KLoop.more {Q : List Nat} {M0 M M1 : Mem} {x : Nat} {W W1 : List Nat} {g g1 : GS} {P : Nat → Nat → Prop} {H k : Nat} {ks ls : List Nat} {a : Option Addr} {n c : Nat} (h : KLoop M0 Q x M W g P H k M1 W1 g1 ks ls a n c) (G : Mem) : KLoop M0 Q x M W g P H k (M1 ++ G) W1 g1 ks ls a n c := by
  obtain ⟨r, hr⟩ := h.sim
  exact h.go (Run.grow hr G) h.kidz h.bd
/-- The row grows. -/
theorem KLoop.app {Q : List Nat} {M0 M M1 : Mem} {x : Nat} {W W1 : List Nat} {g g1 : GS} {P : Nat → Nat → Prop} {H k : Nat} {ks ls : List Nat} {a : Option Addr} {n c : Nat} (h : KLoop M0 Q x M W g P H k M1 W1 g1 ks ls a n c) (hn : n ≤ 1000)
    {cs : List Value} {new : List Nat} (hcs : cs = ints (new.map Int.ofNat)) {m : Nat} (hm : new.length = m) (hm0 : 0 < m) (hm1 : m ≤ 1000) :
    ∃ a' c' M3, appendA Try.prog (M1 ++ [AObj.cells cs 1 .live]) 22 22 (.slice a n c) (.slice (some ⟨M1.length, 0, none⟩) m m) = some (.slice a' (n + m) c', M3) ∧ KLoop M0 Q x M W g P H k M3 W1 g1 ks (ls ++ new) a' (n + m) c' := by
  subst hcs
  have hlen : (ints (new.map Int.ofNat)).length = m := by simp [ints, hm]
  have h1 := h.more [AObj.cells (ints (new.map Int.ofNat)) 1 .live]
  obtain ⟨c', M3, h9, hO9, hm9, hl9, hc9⟩ := append_own2 E22 h1.own (src_at (n := m) (c := m) (get_last M1 _) (by rw [hlen]; omega)) (by rw [hlen]; omega) (by simp [ints, Value.oneCell']) (by omega) (by omega) hm0
  obtain ⟨r, hr⟩ := h1.sim
  refine ⟨_, c', M3, h9, ?_⟩
  have T := fun Q' hQ => hr.turn (Q' := Q') hm9 (fun y hy => ⟨List.mem_append_left _ hy, (h.lo y hy).2⟩) hQ
  have hlM : M.length ≤ M1.length := h.run.mod.1
  have hM0 : M0.length ≤ M1.length := by
    obtain ⟨r0, hr0⟩ := h.sim
    exact hr0.n.1.len
  refine ⟨⟨T Q (fun y hy => ⟨.inl (List.mem_append_right _ hy), ?_⟩), ?_, h.run.sub, h.run.l, h.run.nm, h.run.df⟩, T _ (fun y hy => ?_), h.kidz, ?_, ?_, h.bd⟩
  · have := (hr.q y (List.mem_append_right _ hy)).2; have := hm9.1; omega
  · exact (h1.run.mod.trans hm9 (fun y hy => .inr (h.lo y hy).1))
  · rcases List.mem_append.1 hy with h2 | h2
    · simp only [blk, List.mem_singleton] at h2
      subst h2
      exact ⟨.inr (Nat.le_refl _), hl9⟩
    · refine ⟨.inl (List.mem_append_right _ h2), ?_⟩
      have := (hr.q y (List.mem_append_right _ h2)).2; have := hm9.1; omega
  · have : ints ((ls ++ new).map Int.ofNat) = ints (ls.map Int.ofNat) ++ ints (new.map Int.ofNat) := by simp [ints]
    rw [this]; exact hO9
  · intro y hy
    simp only [blk, List.mem_singleton] at hy
    subst hy
    rw [List.length_append]; omega
/-- The node at last. -/
theorem KLoop.node {Q : List Nat} {M0 M M1 : Mem} {x : Nat} {W W1 : List Nat} {g g1 : GS} {kind : Nat} {ss : List Int} {H k : Nat} {ks : List Nat} {a : Option Addr} {n c : Nat} (h : KLoop M0 Q x M W g (kidP kind ss) H k M1 W1 g1 ks ks a n c) (hlen : g1.ns.length ≤ 1000000) {nm ar : ByteArray}
    (hs : kidsS (Int.ofNat kind) nm ar ks.length = some ss) (hk : kind < 36) (h1 : nm.size ≤ 100) (h2 : ar.size ≤ 100) (h3 : ks.length ≤ 200) {S : Nat → Prop} (hS : S kind) {H' k' : Nat} (hH : H + 1 ≤ H') (hkk : k + 1 ≤ k') (hMQ : ∀ y ∈ Q, y < M.length) :
    ∃ i M', Ret Try.prog 55 [.pointer (some ⟨x, 0, none⟩), .int .i64 (Int.ofNat kind), .string nm, .string ar, .slice a n c] M1 (.int .i64 i) M' ∧ ResI M0 Q x M W g S H' k' i M' := by
  obtain ⟨r1, hr1⟩ := h.run.sim
  obtain ⟨r2, hr2⟩ := h.sim
  have hn : n = ks.length := by have := h.own.2.1; simp [ints] at this; exact this.symm
  subst hn
  obtain ⟨M', W', R', hr⟩ := add_run hr1 hlen ⟨kind, nm, ar, ks, g1.ns.length - g.ns.length + 1, H + 1⟩ (a := a) (c := c) h.own.slice (fun y hy => ⟨(hr2.q y (List.mem_append_left _ hy)).1, fun hq => by have := hMQ y hq; have := (h.lo y hy).1; omega, (hr2.q y (List.mem_append_left _ hy)).2⟩)
  refine ⟨_, M', hr, W', _, ?_, h.run.trans R', (h.kidz.made hs hk h1 h2 h3 hS h.bd).mono (fun _ h => h) hH hkk⟩
  simp [GS.add]
theorem KLoop.conv {Q : List Nat} {M0 M M1 : Mem} {x : Nat} {W W1 : List Nat} {g g1 : GS} {P P' : Nat → Nat → Prop} {H k : Nat} {ks ls : List Nat} {a : Option Addr} {n c : Nat} (h : KLoop M0 Q x M W g P H k M1 W1 g1 ks ls a n c) (hP : ∀ j, j < ks.length → ∀ kk, P j kk → P' j kk) : KLoop M0 Q x M W g P' H k M1 W1 g1 ks ls a n c :=
  ⟨h.run, h.sim, h.kidz.conv hP, h.own, h.lo, h.bd⟩

theorem eqk {a b : Nat} (h : eqF (Int.ofNat a) (Int.ofNat b) = true) : a = b := by
  rw [eqF_t] at h; exact Int.ofNat.inj h
theorem nek {a b : Nat} (h : eqF (Int.ofNat a) (Int.ofNat b) = false) : a ≠ b := fun e => by
  rw [eqF_f] at h; exact h (by rw [e])
/-- One of some numbers. -/
theorem intRow_at {M : Mem} {a : Option Addr} {l : List Nat} (h : Row M a (ints (l.map Int.ofNat))) {k : Nat} (hk : k < l.length) {c : Nat} {i : Int} (hi : i = Int.ofNat k) :
    ∃ y o, idxA Try.prog 22 (.slice a l.length c) (.int .i64 i) = some (.pointer (some ⟨y, o, none⟩)) ∧ rdVar Try.prog M 3 y o = some (.int .i64 (Int.ofNat l[k])) ∧ blk a = [y] := by
  rcases h with h | ⟨x, o, rfl, h⟩
  · have : l.length = 0 := by simpa [ints] using congrArg List.length h
    omega
  · have q1 := idx_of (ty := 22) (e := 3) (size := 1) (by kernel_rfl) (by kernel_rfl) (x := x) (o := o) (n := l.length) (c := c) (kk := .i64) hi hk
    rw [Nat.mul_one] at q1
    refine ⟨x, o + k, q1, rd_of_cell k3 ?_, rfl⟩
    rw [h k (by simpa [ints] using hk)]
    simp [ints]
/-- A kind that is drawn from a table. -/
theorem pickI_run {Q : List Nat} {M0 M : Mem} {x : Nat} {W : List Nat} {g : GS} {r : Rep M0 Q M x W g} (h : r.Ok) (hg : GInv g) (T : List Nat) (hT : 0 < T.length) (hT2 : T.length < 1000) {cs : List Value} (hcs : cs = ints (T.map Int.ofNat)) :
    ∃ i M' g', Ret Try.prog 31 [.pointer (some ⟨x, 0, none⟩), .int .i64 (Int.ofNat T.length)] (M ++ [AObj.cells cs 1 .live]) (.int .i64 i) M' ∧
      (∃ y o, idxA Try.prog 22 (.slice (some ⟨M.length, 0, none⟩) T.length T.length) (.int .i64 i) = some (.pointer (some ⟨y, o, none⟩)) ∧ ∃ kind, rdVar Try.prog M' 3 y o = some (.int .i64 (Int.ofNat kind)) ∧ kind ∈ T) ∧
      Run M0 Q x M W M' W g g' ∧ GInv g' ∧ g'.ns = g.ns ∧ g'.bound = g.bound := by
  subst hcs
  have R1 := Run.grow h [AObj.cells (ints (T.map Int.ofNat)) 1 .live]
  obtain ⟨r1, hr1⟩ := R1.sim
  obtain ⟨M', k, g', h1, hk, R2, i2, e2, b2⟩ := next_run hr1 hg hT hT2
  have hrow : Row M' (some ⟨M.length, 0, none⟩) (ints (T.map Int.ofNat)) := (Row.new M (ints (T.map Int.ofNat)) []).mod R2.mod (fun y hy hw => by
    simp [blk] at hy; subst hy
    exact absurd (h.wlt _ hw) (Nat.lt_irrefl _))
  obtain ⟨y, o, q1, q2, _⟩ := intRow_at hrow hk (c := T.length) rfl
  exact ⟨_, M', g', h1, ⟨y, o, q1, _, q2, List.getElem_mem hk⟩, R1.trans R2, i2, e2, b2⟩
/-- A tag that is drawn. -/
theorem tag_run {Q : List Nat} {M0 M : Mem} {x : Nat} {W : List Nat} {g : GS} {r : Rep M0 Q M x W g} (h : r.Ok) (hg : GInv g) {n off : Nat} (hn : 0 < n) (hoff : n + off ≤ 7) :
    Ret Try.prog 69 [] M (.slice (some ⟨M.length, 0, none⟩) 7 7) (M ++ [.cells (strs tagsL) 1 .live]) ∧ ∃ k M' g', Ret Try.prog 31 [.pointer (some ⟨x, 0, none⟩), .int .i64 (Int.ofNat n)] (M ++ [AObj.cells (strs tagsL) 1 .live]) (.int .i64 (Int.ofNat k)) M' ∧ k < n ∧
      (∃ y o, idxA Try.prog 53 (.slice (some ⟨M.length, 0, none⟩) 7 7) (.int .i64 (Int.ofNat (off + k))) = some (.pointer (some ⟨y, o, none⟩)) ∧ ∃ s, rdVar Try.prog M' 9 y o = some (.string s) ∧ s ∈ tagsL.drop off) ∧
      Run M0 Q x M W M' W g g' ∧ GInv g' ∧ g'.ns = g.ns ∧ g'.bound = g.bound := by
  have R1 := Run.grow h [AObj.cells (strs tagsL) 1 .live]
  obtain ⟨r1, hr1⟩ := R1.sim
  obtain ⟨M', k, g', h1, hk, R2, i2, e2, b2⟩ := next_run hr1 hg hn (by omega)
  have hrow : Row M' (some ⟨M.length, 0, none⟩) (strs tagsL) := (Row.new M (strs tagsL) []).mod R2.mod (fun y hy hw => by
    simp [blk] at hy; subst hy
    exact absurd (h.wlt _ hw) (Nat.lt_irrefl _))
  have hlt : off + k < tagsL.length := by show _ < 7; omega
  obtain ⟨y, o, q1, q2⟩ := strs_at hrow hlt (c := 7) rfl
  refine ⟨tags_ret M, k, M', g', h1, hk, ⟨y, o, q1, _, q2, ?_⟩, R1.trans R2, i2, e2, b2⟩
  have : (tagsL.drop off)[k]'(by rw [List.length_drop]; omega) = tagsL[off + k] := by rw [List.getElem_drop]
  rw [← this]; exact List.getElem_mem _

/-- Two alike, of a kind from a table. -/
theorem pair_res {f : FuncId} {S : Nat → Prop} {e : Nat} (ih : DrawsI f S e) {Q : List Nat} {M0 M M1 : Mem} {x : Nat} {W W1 : List Nat} {g g1 : GS} (R1 : Run M0 Q x M W M1 W1 g g1) (i1 : GInv g1) (e1 : g1.ns = g.ns) (b1 : g1.bound = g.bound) (hlen : g.ns.length + XB (e + 1) ≤ 900000) (hbn : g.bound.length + (e + 1) ≤ 1000)
    (T : List Nat) {j : Nat} (hj : j < T.length) {s : Int} {S' : Nat → Prop} (hT : ∀ kind ∈ T, kidsS (Int.ofNat kind) noText noText 2 = some (List.replicate 2 s) ∧ S' kind ∧ kind ≠ 10 ∧ kind ≠ 30 ∧ kind < 36) (hS : ∀ kk, S kk → isS (Int.ofNat kk) s = true) {iv : Int} (hiv : iv = Int.ofNat j)
    {cs : List Value} (hcs : cs = ints (T.map Int.ofNat)) {n : Nat} (hn : n = T.length) :
    ∃ i38 M39, Ret Try.prog f [.pointer (some ⟨x, 0, none⟩), .int .i64 (Int.ofNat e - 1)] M1 (.int .i64 i38) M39 ∧ ∃ n40 n41, idxA Try.prog 22 (.slice (some ⟨M39.length, 0, none⟩) n n) (.int .i64 iv) = some (.pointer (some ⟨n40, n41, none⟩)) ∧
      ∃ i42, rdVar Try.prog (M39 ++ [AObj.cells cs 1 .live]) 3 n40 n41 = some (.int .i64 i42) ∧ ∃ i43 M44, Ret Try.prog f [.pointer (some ⟨x, 0, none⟩), .int .i64 (Int.ofNat e - 1)] (M39 ++ [AObj.cells cs 1 .live]) (.int .i64 i43) M44 ∧
      ∃ i45 M46, Ret Try.prog 55 [.pointer (some ⟨x, 0, none⟩), .int .i64 i42, .string noText, .string noText, .slice (some ⟨M44.length, 0, none⟩) 2 2] (M44 ++ [AObj.cells [.int .i64 i38, .int .i64 i43] 1 .live]) (.int .i64 i45) M46 ∧
      (((M39.length < (M39 ++ [AObj.cells cs 1 .live]).length → M44[M39.length]? = (M39 ++ [AObj.cells cs 1 .live])[M39.length]?) ∧ True) ∧ ((n40 < (M39 ++ [AObj.cells cs 1 .live]).length → M44[n40]? = (M39 ++ [AObj.cells cs 1 .live])[n40]?) ∧ True) ∧ True) ∧
      ResI M0 Q x M W g S' (e + 1 + 2) (XB (e + 1)) i45 M46 := by
  subst hcs
  subst hn
  have hX : XB (e + 1) = 3 * XB e + 4 := rfl
  have K1 := (Kidz.nil (fun _ kk => S kk) (e + 2) i1).base e1
  obtain ⟨a, M2, W2, g2, h2, R2, K2, b2, _⟩ := ih.step R1 K1 (Nat.le_refl _) (fun _ h => h) (by omega) (by rw [b1]; omega)
  obtain ⟨r2, hr2⟩ := R2.sim
  have R2' := R2.trans (Run.grow hr2 [AObj.cells (ints (T.map Int.ofNat)) 1 .live])
  obtain ⟨b, M3, W3, g3, h3, R3, K3, b3, R23⟩ := ih.step R2' K2 (Nat.le_refl _) (fun _ h => h) (by omega) (by rw [b2, b1]; omega)
  have l3 := K3.len
  obtain ⟨y, o, q1, q2, q3⟩ := intRow_at (Row.new M2 (ints (T.map Int.ofNat)) []) hj (c := T.length) hiv
  obtain ⟨t1, t2, t3, t4, t5⟩ := hT _ (List.getElem_mem hj)
  have hy : y = M2.length := by simpa [blk] using q3.symm
  subst hy
  have calm : M2.length < (M2 ++ [AObj.cells (ints (T.map Int.ofNat)) 1 .live]).length → M3[M2.length]? = (M2 ++ [AObj.cells (ints (T.map Int.ofNat)) 1 .live])[M2.length]? :=
    fun hl => R23.mod.2 _ hl (fun hw => Nat.lt_irrefl _ (hr2.wlt _ hw))
  obtain ⟨i, M4, h4, R4⟩ := node_res R3 (K3.conv fun j2 hj2 kk hp => kidP_rep (kind := T[j]) (m := 2) (s := s) hj2 (hS _ hp) t3 t4) (by omega) (nm := noText) (ar := noText) t1 t5 (by decide) (by decide) (by simp) (S := S') t2 (b3.trans (b2.trans b1)) (H' := e + 1 + 2) (k' := XB (e + 1)) (by omega) (by omega) rfl rfl
  exact ⟨_, _, h2, _, _, q1, _, q2, _, _, h3, _, _, h4, ⟨⟨calm, trivial⟩, ⟨calm, trivial⟩, trivial⟩, R4⟩

end Go.Proofs.YtabkcbaknjenmaaAM

/-
  THE NODE LAWS: the trees that are drawn: types and forms. (Written by genNG12.py.)
-/
set_option linter.unusedVariables false
set_option linter.unusedSimpArgs false
namespace Go.Proofs.YtabkcbaknjenmaaAM
open Go Go.Proofs
set_option maxRecDepth 100000
set_option maxHeartbeats 4000000

abbrev kindK (kk : Nat) : Prop := isS (Int.ofNat kk) 2 = true
abbrev formK (kk : Nat) : Prop := isS (Int.ofNat kk) 3 = true
abbrev arrowK (kk : Nat) : Prop := kk = 16
theorem full_pos {g : GS} {e : Nat} (h : g.full (Int.ofNat (e + 1) - 1) = false) : 1 ≤ e := by
  rcases Nat.eq_zero_or_pos e with rfl | h0
  · rw [full_low (by decide)] at h; simp at h
  · exact h0
theorem lp_ex4 {L R S : Option Addr → Nat → Nat → Mem → Prop} (h : ∃ a n c M', L a n c M' ∧ R a n c M') (k : ∀ a n c M', R a n c M' → S a n c M') : ∃ a n c M', L a n c M' ∧ ((Nat → Value) → S a n c M') := by
  obtain ⟨a, n, c, M', h1, h2⟩ := h
  exact ⟨a, n, c, M', h1, fun _ => k _ _ _ _ h2⟩

/-- Kids by one method, some of them. -/
def CInv (M0 : Mem) (Q : List Nat) (x : Nat) (M : Mem) (W : List Nat) (g : GS) (S : Nat → Prop) (e N : Nat) (n : Nat) (a : Option Addr) (tn tc : Nat) (t : Int) (M1 : Mem) : Prop :=
  ∃ W1 g1 ks, t = Int.ofNat n ∧ ks.length + n = N ∧ tn = ks.length ∧ KLoop M0 Q x M W g (fun _ kk => S kk) (e + 2) (ks.length * XB e) M1 W1 g1 ks ks a tn tc
def CEnd (M0 : Mem) (Q : List Nat) (x : Nat) (M : Mem) (W : List Nat) (g : GS) (S : Nat → Prop) (e N : Nat) (a : Option Addr) (tn tc : Nat) (M1 : Mem) : Prop :=
  ∃ W1 g1 ks, ks.length = N ∧ KLoop M0 Q x M W g (fun _ kk => S kk) (e + 2) (N * XB e) M1 W1 g1 ks ks a tn tc
theorem collect_step {f : FuncId} {S : Nat → Prop} {e : Nat} (hd : DrawsI f S e) {Q : List Nat} {M0 M : Mem} {x : Nat} {W : List Nat} {g : GS} {N : Nat} (hN : N ≤ 3) (hlen : g.ns.length + XB (e + 1) ≤ 900000) (hbn : g.bound.length + (e + 1) ≤ 1000)
    {n : Nat} {a : Option Addr} {tn tc : Nat} {t : Int} {M1 : Mem} (hI : CInv M0 Q x M W g S e N n a tn tc t M1) :
    cnd (!leF t (Int.ofNat 0)) (∃ i0 M2, Ret Try.prog f [.pointer (some ⟨x, 0, none⟩), .int .i64 (Int.ofNat e - 1)] M1 (.int .i64 i0) M2 ∧ ∃ a2 n3 n4 M5, appendA Try.prog (M2 ++ [AObj.cells [.int .i64 i0] 1 .live]) 22 22 (.slice a tn tc) (.slice (some ⟨M2.length, 0, none⟩) 1 1) = some (.slice a2 n3 n4, M5) ∧
      ∃ m, m < n ∧ CInv M0 Q x M W g S e N m a2 n3 n4 (wrapF .i64 (Int.sub t (Int.ofNat 1))) M5) (CEnd M0 Q x M W g S e N a tn tc M1) := by
  obtain ⟨W1, g1, ks, rfl, hks, rfl, hK⟩ := hI
  have hX : XB (e + 1) = 3 * XB e + 4 := rfl
  refine cnd_of (fun h => ?_) (fun h => ?_)
  · have hn : 0 < n := by
      have : leF (Int.ofNat n) (Int.ofNat 0) = false := by simpa using h
      rw [leF_f] at this; exact Int.ofNat_lt.1 this
    have hmul : ks.length * XB e ≤ 2 * XB e := Nat.mul_le_mul_right _ (by omega)
    obtain ⟨j, M2, W2, g2, h2, K2⟩ := hK.draw hd (Nat.le_refl _) (fun _ h => h) (by omega) (by omega)
    obtain ⟨a2, c2, M3, h3, K3⟩ := K2.app (by omega) (cs := [.int .i64 (Int.ofNat j)]) (new := [j]) rfl (m := 1) rfl (by decide) (by decide)
    refine ⟨_, M2, h2, a2, _, c2, M3, h3, n - 1, by omega, W2, g2, ks ++ [j], sub64 (by omega) (by omega), by simp; omega, by simp, ?_⟩
    have e1 : (ks ++ [j]).length * XB e = ks.length * XB e + XB e := by rw [List.length_append, Nat.add_mul]; simp
    rw [e1]; exact K3
  · have hn : n = 0 := by
      have : leF (Int.ofNat n) (Int.ofNat 0) = true := by simpa using h
      rw [leF_t] at this
      have := Int.ofNat_le.1 this
      omega
    exact ⟨W1, g1, ks, by omega, by rw [show N = ks.length by omega]; exact hK⟩
theorem CInv.start {Q : List Nat} {M0 M M1 : Mem} {x : Nat} {W W1 : List Nat} {g g1 : GS} (R : Run M0 Q x M W M1 W1 g g1) (S : Nat → Prop) (e N : Nat) (i1 : GInv g1) (e1 : g1.ns = g.ns) (b1 : g1.bound = g.bound) {t : Int} (ht : t = Int.ofNat N) : CInv M0 Q x M W g S e N N none 0 0 t M1 := by
  refine ⟨W1, g1, [], ht, by simp, rfl, ?_⟩
  have := KLoop.start R (fun _ kk => S kk) (e + 2) i1 e1 b1
  simpa using this
theorem gather_res {Q : List Nat} {M0 M M1 : Mem} {x : Nat} {W : List Nat} {g : GS} {S : Nat → Prop} {e N : Nat} {a : Option Addr} {n c : Nat} (h : CEnd M0 Q x M W g S e N a n c M1) (hN : N ≤ 3) (hlen : g.ns.length + XB (e + 1) ≤ 900000) (hMQ : ∀ y ∈ Q, y < M.length)
    (T : List Nat) {j : Nat} (hj : j < T.length) {s : Int} {S' : Nat → Prop} (hT : ∀ kind ∈ T, kidsS (Int.ofNat kind) noText noText N = some (List.replicate N s) ∧ S' kind ∧ kind ≠ 10 ∧ kind ≠ 30 ∧ kind < 36) (hS : ∀ kk, S kk → isS (Int.ofNat kk) s = true) {iv : Int} (hiv : iv = Int.ofNat j)
    {cs : List Value} (hcs : cs = ints (T.map Int.ofNat)) {m : Nat} (hm : m = T.length) :
    ∃ n40 n41, idxA Try.prog 22 (.slice (some ⟨M1.length, 0, none⟩) m m) (.int .i64 iv) = some (.pointer (some ⟨n40, n41, none⟩)) ∧ ∃ i42, rdVar Try.prog (M1 ++ [AObj.cells cs 1 .live]) 3 n40 n41 = some (.int .i64 i42) ∧
      ∃ i45 M46, Ret Try.prog 55 [.pointer (some ⟨x, 0, none⟩), .int .i64 i42, .string noText, .string noText, .slice a n c] (M1 ++ [AObj.cells cs 1 .live]) (.int .i64 i45) M46 ∧ ResI M0 Q x M W g S' (e + 1 + 2) (XB (e + 1)) i45 M46 := by
  subst hcs
  subst hm
  have hX : XB (e + 1) = 3 * XB e + 4 := rfl
  obtain ⟨W1, g1, ks, hks, hK⟩ := h
  have hmul : N * XB e ≤ 3 * XB e := Nat.mul_le_mul_right _ hN
  obtain ⟨y, o, q1, q2, q3⟩ := intRow_at (Row.new M1 (ints (T.map Int.ofNat)) []) hj (c := T.length) hiv
  obtain ⟨t1, t2, t3, t4, t5⟩ := hT _ (List.getElem_mem hj)
  have K2 := (hK.more [AObj.cells (ints (T.map Int.ofNat)) 1 .live]).conv (P' := kidP T[j] (List.replicate N s)) fun j2 hj2 kk hp => kidP_rep (by omega) (hS _ hp) t3 t4
  have l2 := K2.kidz.len
  obtain ⟨i, M4, h4, R4⟩ := K2.node (by omega) (nm := noText) (ar := noText) (by rw [hks]; exact t1) t5 (by decide) (by decide) (by omega) t2 (H' := e + 1 + 2) (k' := XB (e + 1)) (by omega) (by omega) hMQ
  exact ⟨_, _, q1, _, q2, _, _, h4, R4⟩
theorem Rep.Ok.qlt {Q : List Nat} {M0 M : Mem} {x : Nat} {W : List Nat} {g : GS} {r : Rep M0 Q M x W g} (h : r.Ok) : ∀ y ∈ Q, y < M.length := fun y hy => (h.q y hy).2

theorem tags_tag : ∀ s ∈ tagsL, kidsS (Int.ofNat 14) s noText 0 = some [] ∧ s.size ≤ 100 := by
  have h : tagsL.all (fun s => (kidsS (Int.ofNat 14) s noText 0 == some []) && decide (s.size ≤ 100)) = true := by decide +kernel
  intro b hb
  have := List.all_eq_true.1 h b hb
  simpa [and_assoc] using this
theorem tags_ftag : ∀ s ∈ tagsL.drop 1, kidsS (Int.ofNat 21) s noText 1 = some [4] ∧ s.size ≤ 100 := by
  have h : (tagsL.drop 1).all (fun s => (kidsS (Int.ofNat 21) s noText 1 == some [4]) && decide (s.size ≤ 100)) = true := by decide +kernel
  intro b hb
  have := List.all_eq_true.1 h b hb
  simpa [and_assoc] using this
theorem names_arg : ∀ s ∈ namesG, kidsS (Int.ofNat 16) noText s 2 = some (List.replicate 2 2) ∧ kidsS (Int.ofNat 15) noText s 1 = some (List.replicate 1 3) ∧ s.size ≤ 100 := by
  have h : namesG.all (fun s => (kidsS (Int.ofNat 16) noText s 2 == some (List.replicate 2 2)) && (kidsS (Int.ofNat 15) noText s 1 == some (List.replicate 1 3)) && decide (s.size ≤ 100)) = true := by decide +kernel
  intro b hb
  have := List.all_eq_true.1 h b hb
  simpa [and_assoc] using this

/-- One more name is bound meanwhile. -/
theorem under_step {Q : List Nat} {M0 M M1 : Mem} {x : Nat} {W W1 : List Nat} {g g1 : GS} (R : Run M0 Q x M W M1 W1 g g1) {P : Nat → Nat → Prop} {H k : Nat} {ks : List Nat} (K : Kidz P H k g g1 ks) (hbn : g1.bound.length ≤ 100000) {nm : ByteArray} (hn : nm ∈ namesG) :
    ∃ M2 W2, Ret Try.prog 52 [.pointer (some ⟨x, 0, none⟩), .string nm] M1 undef M2 ∧ Run M0 Q x M W M2 W2 g (g1.under nm) ∧ Kidz P H k g (g1.under nm) ks := by
  obtain ⟨r1, hr1⟩ := R.sim
  obtain ⟨M2, W2, h2, R2, i2⟩ := under_run hr1 K.inv hbn hn
  exact ⟨M2, W2, h2, R.trans R2, K.turn rfl i2⟩
theorem up_step {Q : List Nat} {M0 M M1 : Mem} {x : Nat} {W W1 : List Nat} {g g1 : GS} (R : Run M0 Q x M W M1 W1 g g1) {P : Nat → Nat → Prop} {H k : Nat} {ks : List Nat} (K : Kidz P H k g g1 ks) {b : List ByteArray} {nm : ByteArray} (hb : g1.bound = b ++ [nm]) (hbn : b.length ≤ 10000) :
    ∃ M2, Ret Try.prog 54 [.pointer (some ⟨x, 0, none⟩)] M1 undef M2 ∧ Run M0 Q x M W M2 W1 g g1.up ∧ Kidz P H k g g1.up ks ∧ g1.up.bound = b := by
  obtain ⟨r1, hr1⟩ := R.sim
  obtain ⟨M2, h2, R2, i2⟩ := up_run hr1 K.inv (by rw [hb]; simp) (by rw [hb]; simp; omega)
  exact ⟨M2, h2, R.trans R2, K.turn rfl i2, by simp [GS.up, hb]⟩

theorem arrow_draws {e : Nat} (he : e + 1 ≤ 20) (hk : DrawsI 51 kindK e) : DrawsI 79 arrowK (e + 1) := by
  intro M0 Q x M W g r h hg hlen hbn
  refine wp_res (w79 (p0 := x) (p1 := Int.ofNat (e + 1) - 1) (M := M) ?_)
  rw [dec e (by omega)]
  have hX : XB (e + 1) = 3 * XB e + 4 := rfl
  obtain ⟨s, M1, g1, h1, hs, R1, i1, e1, b1⟩ := binder_run h hg
  have K1 := (Kidz.nil (fun _ kk => kindK kk) (e + 2) i1).base e1
  obtain ⟨a, M2, W2, g2, h2, R2, K2, b2, _⟩ := hk.step R1 K1 (Nat.le_refl _) (fun _ h => h) (by omega) (by rw [b1]; omega)
  obtain ⟨M3, W3, h3, R3, K3⟩ := under_step R2 K2 (by rw [b2, b1]; omega) hs
  have b3 : (g2.under s).bound = g.bound ++ [s] := by simp [GS.under, b2, b1]
  obtain ⟨b, M4, W4, g4, h4, R4, K4, b4, _⟩ := hk.step R3 K3 (Nat.le_refl _) (fun _ h => h) (by omega) (by rw [b3]; simp; omega)
  obtain ⟨M5, h5, R5, K5, b5⟩ := up_step R4 K4 (b4.trans b3) (by omega)
  have l5 := K5.len
  obtain ⟨t1, _, t3⟩ := names_arg s hs
  obtain ⟨i, M6, h6, R6⟩ := node_res R5 (K5.conv fun j hj kk hp => kidP_rep (kind := 16) (m := 2) (s := 2) hj hp (by decide) (by decide)) (by omega) (nm := noText) (ar := s) t1 (by decide) (by decide) t3 (by simp) (S := arrowK) rfl b5 (H' := e + 1 + 2) (k' := XB (e + 1)) (by omega) (by omega) rfl rfl
  exact ⟨_, _, h1, _, _, h2, _, h3, _, _, h4, _, h5, _, _, h6, _, rfl, R6⟩

theorem kind_tag {Q : List Nat} {M0 M M1 : Mem} {x : Nat} {W W1 : List Nat} {g g1 : GS} (R1 : Run M0 Q x M W M1 W1 g g1) (i1 : GInv g1) (e1 : g1.ns = g.ns) (b1 : g1.bound = g.bound) (hlen : g.ns.length ≤ 900000) {H k : Nat} (hH : 1 ≤ H) (hk : 1 ≤ k) :
    ∃ a4 n5 n6 M7, Ret Try.prog 69 [] M1 (.slice a4 n5 n6) M7 ∧ ∃ i8 M9, Ret Try.prog 31 [.pointer (some ⟨x, 0, none⟩), .int .i64 (Int.ofNat 7)] M7 (.int .i64 i8) M9 ∧ ∃ n10 n11, idxA Try.prog 53 (.slice a4 n5 n6) (.int .i64 i8) = some (.pointer (some ⟨n10, n11, none⟩)) ∧
      ∃ s12, rdVar Try.prog M9 9 n10 n11 = some (.string s12) ∧ ∃ i13 M14, Ret Try.prog 55 [.pointer (some ⟨x, 0, none⟩), .int .i64 (Int.ofNat 14), .string s12, .string noText, .slice none 0 0] M9 (.int .i64 i13) M14 ∧ ResI M0 Q x M W g kindK H k i13 M14 := by
  obtain ⟨r1, hr1⟩ := R1.sim
  obtain ⟨h2, kk, M3, g3, h3, hkk, ⟨y, o, q1, s, q2, hs⟩, R3, i3, e3, b3⟩ := tag_run hr1 i1 (n := 7) (off := 0) (by decide) (by decide)
  rw [Nat.zero_add] at q1
  obtain ⟨t1, t2⟩ := tags_tag s (by simpa using hs)
  obtain ⟨i, M4, h4, R4⟩ := leaf_res (R1.trans R3) i3 (e3.trans e1) (b3.trans b1) (by rw [e3, e1]; omega) (kind := 14) (nm := s) (ar := noText) t1 (by decide) t2 (by decide) (S := kindK) (by decide) hH hk
  exact ⟨_, _, _, _, h2, _, _, h3, _, _, q1, _, q2, _, _, h4, R4⟩
theorem kind_where {e : Nat} (he : e + 1 ≤ 20) (hf : DrawsI 78 formK e) {Q : List Nat} {M0 M M1 : Mem} {x : Nat} {W W1 : List Nat} {g g1 : GS} (R1 : Run M0 Q x M W M1 W1 g g1) (i1 : GInv g1) (e1 : g1.ns = g.ns) (b1 : g1.bound = g.bound) (hlen : g.ns.length + XB (e + 1) ≤ 900000) (hbn : g.bound.length + (e + 1) ≤ 1000) :
    ∃ s26 M27, Ret Try.prog 50 [.pointer (some ⟨x, 0, none⟩)] M1 (.string s26) M27 ∧ ∃ M28, Ret Try.prog 52 [.pointer (some ⟨x, 0, none⟩), .string s26] M27 undef M28 ∧ ∃ i29 M30, Ret Try.prog 78 [.pointer (some ⟨x, 0, none⟩), .int .i64 (Int.ofNat e - 1)] M28 (.int .i64 i29) M30 ∧
      ∃ M31, Ret Try.prog 54 [.pointer (some ⟨x, 0, none⟩)] M30 undef M31 ∧ ∃ i32 M33, Ret Try.prog 55 [.pointer (some ⟨x, 0, none⟩), .int .i64 (Int.ofNat 15), .string noText, .string s26, .slice (some ⟨M31.length, 0, none⟩) 1 1] (M31 ++ [AObj.cells [.int .i64 i29] 1 .live]) (.int .i64 i32) M33 ∧
      ResI M0 Q x M W g kindK (e + 1 + 2) (XB (e + 1)) i32 M33 := by
  have hX : XB (e + 1) = 3 * XB e + 4 := rfl
  obtain ⟨r1, hr1⟩ := R1.sim
  obtain ⟨s, M2, g2, h2, hs, R2, i2, e2, b2⟩ := binder_run hr1 i1
  have K2 := (Kidz.nil (fun _ kk => formK kk) (e + 2) i2).base (e2.trans e1)
  obtain ⟨M3, W3, h3, R3, K3⟩ := under_step (R1.trans R2) K2 (by rw [b2, b1]; omega) hs
  have b3 : (g2.under s).bound = g.bound ++ [s] := by simp [GS.under, b2, b1]
  obtain ⟨a, M4, W4, g4, h4, R4, K4, b4, _⟩ := hf.step R3 K3 (Nat.le_refl _) (fun _ h => h) (by omega) (by rw [b3]; simp; omega)
  obtain ⟨M5, h5, R5, K5, b5⟩ := up_step R4 K4 (b4.trans b3) (by omega)
  have l5 := K5.len
  obtain ⟨_, t1, t3⟩ := names_arg s hs
  obtain ⟨i, M6, h6, R6⟩ := node_res R5 (K5.conv fun j hj kk hp => kidP_rep (kind := 15) (m := 1) (s := 3) hj hp (by decide) (by decide)) (by omega) (nm := noText) (ar := s) t1 (by decide) (by decide) t3 (by simp) (S := kindK) (by decide) b5 (H' := e + 1 + 2) (k' := XB (e + 1)) (by omega) (by omega) rfl rfl
  exact ⟨_, _, h2, _, h3, _, _, h4, _, h5, _, _, h6, R6⟩

theorem kind_zero : DrawsI 51 kindK 0 := by
  intro M0 Q x M W g r h hg hlen hbn
  refine wp_res (w51 (p0 := x) (p1 := Int.ofNat 0 - 1) (M := M) ?_)
  obtain ⟨M1, k, g1, h1, hk, R1, i1, e1, b1⟩ := next_run h hg (n := 12) (by decide) (by decide)
  obtain ⟨r1, hr1⟩ := R1.sim
  have hfull := full_ret hr1 (Int.ofNat 0 - 1)
  rw [full_low (by decide)] at hfull
  obtain ⟨_, _, _, _, q1, _, _, q2, _, _, q3, _, q4, _, _, q5, R5⟩ := kind_tag R1 i1 e1 b1 (by omega) (H := 0 + 2) (k := XB 0) (by decide) (by decide)
  exact ⟨_, _, h1, _, _, hfull, cnd_t ⟨_, _, _, _, q1, _, _, q2, _, _, q3, _, q4, _, _, q5, _, rfl, R5⟩⟩
theorem kind_succ {e : Nat} (he : e + 1 ≤ 20) (hk : DrawsI 51 kindK e) (hf : 1 ≤ e → DrawsI 78 formK e) : DrawsI 51 kindK (e + 1) := by
  intro M0 Q x M W g r h hg hlen hbn
  refine wp_res (w51 (p0 := x) (p1 := Int.ofNat (e + 1) - 1) (M := M) ?_)
  rw [dec e (by omega)]
  obtain ⟨M1, k, g1, h1, hk12, R1, i1, e1, b1⟩ := next_run h hg (n := 12) (by decide) (by decide)
  obtain ⟨r1, hr1⟩ := R1.sim
  have hX : XB (e + 1) = 3 * XB e + 4 := rfl
  have h0 := XB_pos e
  refine ⟨_, _, h1, _, _, full_ret hr1 _, cnd_of (fun _ => ?tag) (fun hfl => cnd_of (fun _ => ?tag2) (fun _ => cnd_of (fun _ => ?wh) fun _ => cnd_of (fun _ => ?wh2) fun _ => cnd_of (fun _ => ?wh3) fun _ => cnd_of (fun _ => ?ar) fun _ => cnd_of (fun _ => ?ar2) fun _ => ?many))⟩
  case tag | tag2 =>
    obtain ⟨_, _, _, _, q1, _, _, q2, _, _, q3, _, q4, _, _, q5, R5⟩ := kind_tag R1 i1 e1 b1 (by omega) (H := e + 1 + 2) (k := XB (e + 1)) (by omega) (by omega)
    exact ⟨_, _, _, _, q1, _, _, q2, _, _, q3, _, q4, _, _, q5, _, rfl, R5⟩
  case wh | wh2 | wh3 =>
    obtain ⟨_, _, q1, _, q2, _, _, q3, _, q4, _, _, q5, R5⟩ := kind_where he (hf (full_pos hfl)) R1 i1 e1 b1 hlen hbn
    exact ⟨_, _, q1, _, q2, _, _, q3, _, q4, _, _, q5, _, rfl, R5⟩
  case ar | ar2 =>
    obtain ⟨i, M2, h2, R2⟩ := arrow_draws he hk M0 Q x M1 W g1 r1 hr1 i1 (by rw [e1]; omega) (by rw [b1]; omega)
    exact ⟨_, _, h2, _, rfl, (R2.base R1 e1 b1).mono (fun _ h => by rw [show _ = 16 from h]; decide) (Nat.le_refl _) (Nat.le_refl _)⟩
  case many =>
    obtain ⟨M2, k2, g2, h2, hk2, R2, i2, e2, b2⟩ := next_run hr1 i1 (n := 2) (by decide) (by decide)
    refine ⟨_, _, h2, fun _ hT0 => lp_ex4 (loop51_0 (CInv M0 Q x M W g kindK e (2 + k2)) (CEnd M0 Q x M W g kindK e (2 + k2)) (fun n a tn tc t M3 hI => by rw [dec e (by omega)]; exact collect_step hk (by omega) hlen hbn hI) (n := 2 + k2) (CInv.start (R1.trans R2) kindK e (2 + k2) i2 (e2.trans e1) (b2.trans b1) (add64 (by omega))) hT0) (fun a n c M3 hE => ?_)⟩
    have hT : ∀ kind ∈ [17, 18], kidsS (Int.ofNat kind) noText noText (2 + k2) = some (List.replicate (2 + k2) 2) ∧ kindK kind ∧ kind ≠ 10 ∧ kind ≠ 30 ∧ kind < 36 := by
      intro kind hkd
      rcases (by omega : k2 = 0 ∨ k2 = 1) with rfl | rfl <;> (simp only [List.mem_cons, List.not_mem_nil, or_false] at hkd; rcases hkd with rfl | rfl <;> refine ⟨by decide +kernel, by decide, by decide, by decide, by decide⟩)
    obtain ⟨_, _, q1, _, q2, _, _, q3, R3⟩ := gather_res hE (by omega) hlen h.qlt [17, 18] (j := k % 2) (Nat.mod_lt _ (by decide)) hT (fun _ h => h) rfl rfl rfl
    exact ⟨_, remN (by decide) (by decide) _ _, _, _, q1, _, q2, _, _, q3, _, rfl, R3⟩

theorem form_tag {e : Nat} (he : e + 1 ≤ 20) {Q : List Nat} {M0 M M1 : Mem} {x : Nat} {W W1 : List Nat} {g g1 : GS} (R1 : Run M0 Q x M W M1 W1 g g1) (i1 : GInv g1) (e1 : g1.ns = g.ns) (b1 : g1.bound = g.bound) (hlen : g.ns.length + XB (e + 1) ≤ 900000) (hbn : g.bound.length + (e + 1) ≤ 1000) :
    ∃ a12 n13 n14 M15, Ret Try.prog 69 [] M1 (.slice a12 n13 n14) M15 ∧ ∃ i16 M17, Ret Try.prog 31 [.pointer (some ⟨x, 0, none⟩), .int .i64 (Int.ofNat 6)] M15 (.int .i64 i16) M17 ∧ ∃ n18 n19, idxA Try.prog 53 (.slice a12 n13 n14) (.int .i64 (wrapF .i64 (Int.add (Int.ofNat 1) i16))) = some (.pointer (some ⟨n18, n19, none⟩)) ∧
      ∃ s20, rdVar Try.prog M17 9 n18 n19 = some (.string s20) ∧ ∃ i21 M22, Ret Try.prog 97 [.pointer (some ⟨x, 0, none⟩), .int .i64 (Int.ofNat e - 1)] M17 (.int .i64 i21) M22 ∧ ∃ i23 M24, Ret Try.prog 55 [.pointer (some ⟨x, 0, none⟩), .int .i64 (Int.ofNat 21), .string s20, .string noText, .slice (some ⟨M22.length, 0, none⟩) 1 1] (M22 ++ [AObj.cells [.int .i64 i21] 1 .live]) (.int .i64 i23) M24 ∧
      ResI M0 Q x M W g formK (e + 1 + 2) (XB (e + 1)) i23 M24 := by
  have hX : XB (e + 1) = 3 * XB e + 4 := rfl
  obtain ⟨r1, hr1⟩ := R1.sim
  obtain ⟨h2, kk, M3, g3, h3, hkk, ⟨y, o, q1, s, q2, hs⟩, R3, i3, e3, b3⟩ := tag_run hr1 i1 (n := 6) (off := 1) (by decide) (by decide)
  rw [← add64 (by omega)] at q1
  obtain ⟨t1, t2⟩ := tags_ftag s hs
  have K3 := (Kidz.nil (fun _ kk => termK kk) (e + 2) i3).base (e3.trans e1)
  obtain ⟨a, M4, W4, g4, h4, R4, K4, b4, _⟩ := (term_draws e (by omega)).step (R1.trans R3) K3 (Nat.le_refl _) (fun _ h => h) (by omega) (by rw [b3, b1]; omega)
  have l4 := K4.len
  obtain ⟨i, M5, h5, R5⟩ := node_res R4 (K4.conv fun j hj kk hp => kidP_rep (kind := 21) (m := 1) (s := 4) hj hp (by decide) (by decide)) (by omega) (nm := s) (ar := noText) t1 (by decide) t2 (by decide) (by simp) (S := formK) (by decide) (b4.trans (b3.trans b1)) (H' := e + 1 + 2) (k' := XB (e + 1)) (by omega) (by omega) rfl rfl
  exact ⟨_, _, _, _, h2, _, _, h3, _, _, q1, _, q2, _, _, h4, _, _, h5, R5⟩
theorem form_not {e : Nat} (he : e + 1 ≤ 20) (hf : DrawsI 78 formK e) {Q : List Nat} {M0 M M1 : Mem} {x : Nat} {W W1 : List Nat} {g g1 : GS} (R1 : Run M0 Q x M W M1 W1 g g1) (i1 : GInv g1) (e1 : g1.ns = g.ns) (b1 : g1.bound = g.bound) (hlen : g.ns.length + XB (e + 1) ≤ 900000) (hbn : g.bound.length + (e + 1) ≤ 1000) :
    ∃ i21 M22, Ret Try.prog 78 [.pointer (some ⟨x, 0, none⟩), .int .i64 (Int.ofNat e - 1)] M1 (.int .i64 i21) M22 ∧ ∃ i23 M24, Ret Try.prog 55 [.pointer (some ⟨x, 0, none⟩), .int .i64 (Int.ofNat 29), .string noText, .string noText, .slice (some ⟨M22.length, 0, none⟩) 1 1] (M22 ++ [AObj.cells [.int .i64 i21] 1 .live]) (.int .i64 i23) M24 ∧
      ResI M0 Q x M W g formK (e + 1 + 2) (XB (e + 1)) i23 M24 := by
  have hX : XB (e + 1) = 3 * XB e + 4 := rfl
  have K1 := (Kidz.nil (fun _ kk => formK kk) (e + 2) i1).base e1
  obtain ⟨a, M4, W4, g4, h4, R4, K4, b4, _⟩ := hf.step R1 K1 (Nat.le_refl _) (fun _ h => h) (by omega) (by rw [b1]; omega)
  have l4 := K4.len
  obtain ⟨i, M5, h5, R5⟩ := node_res R4 (K4.conv fun j hj kk hp => kidP_rep (kind := 29) (m := 1) (s := 3) hj hp (by decide) (by decide)) (by omega) (nm := noText) (ar := noText) (by show kidsS _ _ _ 1 = _; decide +kernel) (by decide) (by decide) (by decide) (by simp) (S := formK) (by decide) (b4.trans b1) (H' := e + 1 + 2) (k' := XB (e + 1)) (by omega) (by omega) rfl rfl
  exact ⟨_, _, h4, _, _, h5, R5⟩
theorem form_is {e : Nat} (he : e + 1 ≤ 20) (ha : DrawsI 79 arrowK e) {Q : List Nat} {M0 M M1 : Mem} {x : Nat} {W W1 : List Nat} {g g1 : GS} (R1 : Run M0 Q x M W M1 W1 g g1) (i1 : GInv g1) (e1 : g1.ns = g.ns) (b1 : g1.bound = g.bound) (hlen : g.ns.length + XB (e + 1) ≤ 900000) (hbn : g.bound.length + (e + 1) ≤ 1000) :
    ∃ i21 M22, Ret Try.prog 97 [.pointer (some ⟨x, 0, none⟩), .int .i64 (Int.ofNat e - 1)] M1 (.int .i64 i21) M22 ∧ ∃ i25 M26, Ret Try.prog 79 [.pointer (some ⟨x, 0, none⟩), .int .i64 (Int.ofNat e - 1)] M22 (.int .i64 i25) M26 ∧
      ∃ i23 M24, Ret Try.prog 55 [.pointer (some ⟨x, 0, none⟩), .int .i64 (Int.ofNat 30), .string noText, .string noText, .slice (some ⟨M26.length, 0, none⟩) 2 2] (M26 ++ [AObj.cells [.int .i64 i21, .int .i64 i25] 1 .live]) (.int .i64 i23) M24 ∧
      ResI M0 Q x M W g formK (e + 1 + 2) (XB (e + 1)) i23 M24 := by
  have hX : XB (e + 1) = 3 * XB e + 4 := rfl
  have K1 := (Kidz.nil (kidP 30 [4, 2]) (e + 2) i1).base e1
  obtain ⟨a, M4, W4, g4, h4, R4, K4, b4, _⟩ := (term_draws e (by omega)).step R1 K1 (Nat.le_refl _) (fun kk hp => ⟨hp, fun e => absurd e (by decide), fun _ e => absurd e (by decide)⟩) (by omega) (by rw [b1]; omega)
  obtain ⟨b, M5, W5, g5, h5, R5, K5, b5, _⟩ := ha.step R4 K4 (Nat.le_refl _) (fun kk hp => by
    have hp : kk = 16 := hp
    subst hp
    exact ⟨by show isS (Int.ofNat 16) 2 = true; decide, fun e => absurd e (by decide), fun _ _ => rfl⟩) (by omega) (by rw [b4, b1]; omega)
  have l5 := K5.len
  obtain ⟨i, M6, h6, R6⟩ := node_res R5 K5 (by omega) (nm := noText) (ar := noText) (by show kidsS _ _ _ 2 = _; decide +kernel) (by decide) (by decide) (by decide) (by simp) (S := formK) (by decide) (b5.trans (b4.trans b1)) (H' := e + 1 + 2) (k' := XB (e + 1)) (by omega) (by omega) rfl rfl
  exact ⟨_, _, h4, _, _, h5, _, _, h6, R6⟩

theorem form_succ {e : Nat} (he : e + 1 ≤ 20) (ha : 1 ≤ e → DrawsI 79 arrowK e) (hf : 1 ≤ e → DrawsI 78 formK e) : DrawsI 78 formK (e + 1) := by
  intro M0 Q x M W g r h hg hlen hbn
  refine wp_res (w78 (p0 := x) (p1 := Int.ofNat (e + 1) - 1) (M := M) ?_)
  rw [dec e (by omega)]
  obtain ⟨M1, k, g1, h1, hk14, R1, i1, e1, b1⟩ := next_run h hg (n := 14) (by decide) (by decide)
  obtain ⟨r1, hr1⟩ := R1.sim
  have hX : XB (e + 1) = 3 * XB e + 4 := rfl
  have h0 := XB_pos e
  have hT3 : ∀ kind ∈ [22, 23, 24], kidsS (Int.ofNat kind) noText noText 2 = some (List.replicate 2 5) ∧ formK kind ∧ kind ≠ 10 ∧ kind ≠ 30 ∧ kind < 36 := by
    intro kind hkd
    simp only [List.mem_cons, List.not_mem_nil, or_false] at hkd
    rcases hkd with rfl | rfl | rfl <;> exact ⟨by decide +kernel, by decide, by decide, by decide, by decide⟩
  have hT2 : ∀ kind ∈ [25, 26], kidsS (Int.ofNat kind) noText noText 2 = some (List.replicate 2 4) ∧ formK kind ∧ kind ≠ 10 ∧ kind ≠ 30 ∧ kind < 36 := by
    intro kind hkd
    simp only [List.mem_cons, List.not_mem_nil, or_false] at hkd
    rcases hkd with rfl | rfl <;> exact ⟨by decide +kernel, by decide, by decide, by decide, by decide⟩
  refine ⟨_, _, h1, _, _, full_ret hr1 _, cnd_of (fun _ => cnd_of (fun _ => ⟨_, remN (by decide) (by decide) _ _, ?s1⟩) (fun h7 => ?s2)) (fun hfl => ?s3)⟩
  case s1 =>
    have hm : k % 8 < 8 := Nat.mod_lt _ (by decide)
    refine cnd_of (fun _ => ?z) fun _ => cnd_of (fun _ => ?t1) fun _ => cnd_of (fun _ => ?t2) fun _ => cnd_of (fun q => ?n3) fun _ => cnd_of (fun q => ?n4) fun _ => cnd_of (fun q => ?n5) fun _ => cnd_of (fun q => ?e6) fun _ => cnd_of (fun q => ?e7) fun _ => cnd_of (fun q => ?nt) fun _ => cnd_of (fun q => ?is_) fun _ => ?many
    case z =>
      obtain ⟨i, M2, g2, h2, ⟨y, o, q1, kind, q2, hkd⟩, R2, i2, e2, b2⟩ := pickI_run hr1 i1 [19, 20] (by decide) (by decide) (cs := [.int .i64 (Int.ofNat 19), .int .i64 (Int.ofNat 20)]) rfl
      have hT : kidsS (Int.ofNat kind) noText noText 0 = some [] ∧ formK kind ∧ kind < 36 := by
        simp only [List.mem_cons, List.not_mem_nil, or_false] at hkd
        rcases hkd with rfl | rfl <;> exact ⟨by decide +kernel, by decide, by decide⟩
      obtain ⟨i', M3, h3, R3⟩ := leaf_res (R1.trans R2) i2 (e2.trans e1) (b2.trans b1) (by rw [e2, e1]; omega) (kind := kind) (nm := noText) (ar := noText) hT.1 hT.2.2 (by decide) (by decide) (S := formK) hT.2.1 (H := e + 1 + 2) (k := XB (e + 1)) (by omega) (by omega)
      exact ⟨_, _, h2, _, _, q1, _, q2, _, _, h3, _, rfl, R3⟩
    case t1 | t2 =>
      obtain ⟨_, _, _, _, q1, _, _, q2, _, _, q3, _, q4, _, _, q5, _, _, q6, R6⟩ := form_tag he R1 i1 e1 b1 hlen hbn
      exact ⟨_, _, _, _, q1, _, _, q2, _, _, q3, _, q4, _, _, q5, _, _, q6, _, rfl, R6⟩
    case n3 =>
      have q := eqk q
      obtain ⟨_, _, q1, _, _, q2, _, q3, _, _, q4, _, _, q5, qc, R5⟩ := pair_res (number_draws e (by omega)) R1 i1 e1 b1 hlen hbn [22, 23, 24] (j := 0) (by decide) (s := 5) (S' := formK) hT3 (fun _ h => h) (iv := wrapF .i64 (Int.sub (Int.ofNat (k % 8)) (Int.ofNat 3))) (by rw [q]; exact sub64 (by decide) (by decide)) rfl rfl
      exact ⟨_, _, q1, _, _, q2, _, q3, _, _, q4, _, _, q5, qc, _, rfl, R5⟩
    case n4 =>
      have q := eqk q
      obtain ⟨_, _, q1, _, _, q2, _, q3, _, _, q4, _, _, q5, qc, R5⟩ := pair_res (number_draws e (by omega)) R1 i1 e1 b1 hlen hbn [22, 23, 24] (j := 1) (by decide) (s := 5) (S' := formK) hT3 (fun _ h => h) (iv := wrapF .i64 (Int.sub (Int.ofNat (k % 8)) (Int.ofNat 3))) (by rw [q]; exact sub64 (by decide) (by decide)) rfl rfl
      exact ⟨_, _, q1, _, _, q2, _, q3, _, _, q4, _, _, q5, qc, _, rfl, R5⟩
    case n5 =>
      have q := eqk q
      obtain ⟨_, _, q1, _, _, q2, _, q3, _, _, q4, _, _, q5, qc, R5⟩ := pair_res (number_draws e (by omega)) R1 i1 e1 b1 hlen hbn [22, 23, 24] (j := 2) (by decide) (s := 5) (S' := formK) hT3 (fun _ h => h) (iv := wrapF .i64 (Int.sub (Int.ofNat (k % 8)) (Int.ofNat 3))) (by rw [q]; exact sub64 (by decide) (by decide)) rfl rfl
      exact ⟨_, _, q1, _, _, q2, _, q3, _, _, q4, _, _, q5, qc, _, rfl, R5⟩
    case e6 =>
      have q := eqk q
      obtain ⟨_, _, q1, _, _, q2, _, q3, _, _, q4, _, _, q5, qc, R5⟩ := pair_res (term_draws e (by omega)) R1 i1 e1 b1 hlen hbn [25, 26] (j := 0) (by decide) (s := 4) (S' := formK) hT2 (fun _ h => h) (iv := wrapF .i64 (Int.sub (Int.ofNat (k % 8)) (Int.ofNat 6))) (by rw [q]; exact sub64 (by decide) (by decide)) rfl rfl
      exact ⟨_, _, q1, _, _, q2, _, q3, _, _, q4, _, _, q5, qc, _, rfl, R5⟩
    case e7 =>
      have q := eqk q
      obtain ⟨_, _, q1, _, _, q2, _, q3, _, _, q4, _, _, q5, qc, R5⟩ := pair_res (term_draws e (by omega)) R1 i1 e1 b1 hlen hbn [25, 26] (j := 1) (by decide) (s := 4) (S' := formK) hT2 (fun _ h => h) (iv := wrapF .i64 (Int.sub (Int.ofNat (k % 8)) (Int.ofNat 6))) (by rw [q]; exact sub64 (by decide) (by decide)) rfl rfl
      exact ⟨_, _, q1, _, _, q2, _, q3, _, _, q4, _, _, q5, qc, _, rfl, R5⟩
    case nt =>
      have q := eqk q
      have hp : (k % 8) ≤ 7 ∨ 1 ≤ e := .inl (by omega)
      have he1 : 1 ≤ e := by omega
      obtain ⟨_, _, q1, _, _, q2, R2⟩ := form_not he (hf he1) R1 i1 e1 b1 hlen hbn
      exact ⟨_, _, q1, _, _, q2, _, rfl, R2⟩
    case is_ =>
      have q := eqk q
      have hp : (k % 8) ≤ 7 ∨ 1 ≤ e := .inl (by omega)
      have he1 : 1 ≤ e := by omega
      obtain ⟨_, _, q1, _, _, q2, _, _, q3, R3⟩ := form_is he (ha he1) R1 i1 e1 b1 hlen hbn
      exact ⟨_, _, q1, _, _, q2, _, _, q3, _, rfl, R3⟩
    case many =>
      have he1 : 1 ≤ e := by
        have hp : (k % 8) ≤ 7 ∨ 1 ≤ e := .inl (by omega)
        rcases hp with hp | hp
        · exfalso
          rename_i n0 n1 n2 n3 n4 n5 n6 n7 n8 n9
          have a0 := nek n0; have a1 := nek n1; have a2 := nek n2; have a3 := nek n3; have a4 := nek n4; have a5 := nek n5; have a6 := nek n6; have a7 := nek n7
          omega
        · exact hp
      obtain ⟨M2, k2, g2, h2, hk2, R2, i2, e2, b2⟩ := next_run hr1 i1 (n := 4) (by decide) (by decide)
      refine ⟨_, _, h2, fun _ hT0 => lp_ex4 (loop78_0 (CInv M0 Q x M W g formK e k2) (CEnd M0 Q x M W g formK e k2) (fun n a tn tc t M3 hI => by rw [dec e (by omega)]; exact collect_step (hf he1) (by omega) hlen hbn hI) (n := k2) (CInv.start (R1.trans R2) formK e k2 i2 (e2.trans e1) (b2.trans b1) rfl) hT0) (fun a n c M3 hE => ?_)⟩
      have hT : ∀ kind ∈ [27, 28], kidsS (Int.ofNat kind) noText noText k2 = some (List.replicate k2 3) ∧ formK kind ∧ kind ≠ 10 ∧ kind ≠ 30 ∧ kind < 36 := by
        intro kind hkd
        rcases (by omega : k2 = 0 ∨ k2 = 1 ∨ k2 = 2 ∨ k2 = 3) with rfl | rfl | rfl | rfl <;> (simp only [List.mem_cons, List.not_mem_nil, or_false] at hkd; rcases hkd with rfl | rfl <;> refine ⟨by decide +kernel, by decide, by decide, by decide, by decide⟩)
      obtain ⟨_, _, q1, _, q2, _, _, q3, R3⟩ := gather_res hE (by omega) hlen h.qlt [27, 28] (j := (k % 8) % 2) (Nat.mod_lt _ (by decide)) hT (fun _ h => h) rfl rfl rfl
      exact ⟨_, remN (by decide) (by decide) _ _, _, _, q1, _, q2, _, _, q3, _, rfl, R3⟩
  case s2 =>
    have hm : k ≤ 7 := by
      have : leF (Int.ofNat k) (Int.ofNat 7) = true := by simpa using h7
      rw [leF_t] at this; exact Int.ofNat_le.1 this
    refine cnd_of (fun _ => ?z) fun _ => cnd_of (fun _ => ?t1) fun _ => cnd_of (fun _ => ?t2) fun _ => cnd_of (fun q => ?n3) fun _ => cnd_of (fun q => ?n4) fun _ => cnd_of (fun q => ?n5) fun _ => cnd_of (fun q => ?e6) fun _ => cnd_of (fun q => ?e7) fun _ => cnd_of (fun q => ?nt) fun _ => cnd_of (fun q => ?is_) fun _ => ?many
    case z =>
      obtain ⟨i, M2, g2, h2, ⟨y, o, q1, kind, q2, hkd⟩, R2, i2, e2, b2⟩ := pickI_run hr1 i1 [19, 20] (by decide) (by decide) (cs := [.int .i64 (Int.ofNat 19), .int .i64 (Int.ofNat 20)]) rfl
      have hT : kidsS (Int.ofNat kind) noText noText 0 = some [] ∧ formK kind ∧ kind < 36 := by
        simp only [List.mem_cons, List.not_mem_nil, or_false] at hkd
        rcases hkd with rfl | rfl <;> exact ⟨by decide +kernel, by decide, by decide⟩
      obtain ⟨i', M3, h3, R3⟩ := leaf_res (R1.trans R2) i2 (e2.trans e1) (b2.trans b1) (by rw [e2, e1]; omega) (kind := kind) (nm := noText) (ar := noText) hT.1 hT.2.2 (by decide) (by decide) (S := formK) hT.2.1 (H := e + 1 + 2) (k := XB (e + 1)) (by omega) (by omega)
      exact ⟨_, _, h2, _, _, q1, _, q2, _, _, h3, _, rfl, R3⟩
    case t1 | t2 =>
      obtain ⟨_, _, _, _, q1, _, _, q2, _, _, q3, _, q4, _, _, q5, _, _, q6, R6⟩ := form_tag he R1 i1 e1 b1 hlen hbn
      exact ⟨_, _, _, _, q1, _, _, q2, _, _, q3, _, q4, _, _, q5, _, _, q6, _, rfl, R6⟩
    case n3 =>
      have q := eqk q
      obtain ⟨_, _, q1, _, _, q2, _, q3, _, _, q4, _, _, q5, qc, R5⟩ := pair_res (number_draws e (by omega)) R1 i1 e1 b1 hlen hbn [22, 23, 24] (j := 0) (by decide) (s := 5) (S' := formK) hT3 (fun _ h => h) (iv := wrapF .i64 (Int.sub (Int.ofNat k) (Int.ofNat 3))) (by rw [q]; exact sub64 (by decide) (by decide)) rfl rfl
      exact ⟨_, _, q1, _, _, q2, _, q3, _, _, q4, _, _, q5, qc, _, rfl, R5⟩
    case n4 =>
      have q := eqk q
      obtain ⟨_, _, q1, _, _, q2, _, q3, _, _, q4, _, _, q5, qc, R5⟩ := pair_res (number_draws e (by omega)) R1 i1 e1 b1 hlen hbn [22, 23, 24] (j := 1) (by decide) (s := 5) (S' := formK) hT3 (fun _ h => h) (iv := wrapF .i64 (Int.sub (Int.ofNat k) (Int.ofNat 3))) (by rw [q]; exact sub64 (by decide) (by decide)) rfl rfl
      exact ⟨_, _, q1, _, _, q2, _, q3, _, _, q4, _, _, q5, qc, _, rfl, R5⟩
    case n5 =>
      have q := eqk q
      obtain ⟨_, _, q1, _, _, q2, _, q3, _, _, q4, _, _, q5, qc, R5⟩ := pair_res (number_draws e (by omega)) R1 i1 e1 b1 hlen hbn [22, 23, 24] (j := 2) (by decide) (s := 5) (S' := formK) hT3 (fun _ h => h) (iv := wrapF .i64 (Int.sub (Int.ofNat k) (Int.ofNat 3))) (by rw [q]; exact sub64 (by decide) (by decide)) rfl rfl
      exact ⟨_, _, q1, _, _, q2, _, q3, _, _, q4, _, _, q5, qc, _, rfl, R5⟩
    case e6 =>
      have q := eqk q
      obtain ⟨_, _, q1, _, _, q2, _, q3, _, _, q4, _, _, q5, qc, R5⟩ := pair_res (term_draws e (by omega)) R1 i1 e1 b1 hlen hbn [25, 26] (j := 0) (by decide) (s := 4) (S' := formK) hT2 (fun _ h => h) (iv := wrapF .i64 (Int.sub (Int.ofNat k) (Int.ofNat 6))) (by rw [q]; exact sub64 (by decide) (by decide)) rfl rfl
      exact ⟨_, _, q1, _, _, q2, _, q3, _, _, q4, _, _, q5, qc, _, rfl, R5⟩
    case e7 =>
      have q := eqk q
      obtain ⟨_, _, q1, _, _, q2, _, q3, _, _, q4, _, _, q5, qc, R5⟩ := pair_res (term_draws e (by omega)) R1 i1 e1 b1 hlen hbn [25, 26] (j := 1) (by decide) (s := 4) (S' := formK) hT2 (fun _ h => h) (iv := wrapF .i64 (Int.sub (Int.ofNat k) (Int.ofNat 6))) (by rw [q]; exact sub64 (by decide) (by decide)) rfl rfl
      exact ⟨_, _, q1, _, _, q2, _, q3, _, _, q4, _, _, q5, qc, _, rfl, R5⟩
    case nt =>
      have q := eqk q
      have hp : k ≤ 7 ∨ 1 ≤ e := .inl (by omega)
      have he1 : 1 ≤ e := by omega
      obtain ⟨_, _, q1, _, _, q2, R2⟩ := form_not he (hf he1) R1 i1 e1 b1 hlen hbn
      exact ⟨_, _, q1, _, _, q2, _, rfl, R2⟩
    case is_ =>
      have q := eqk q
      have hp : k ≤ 7 ∨ 1 ≤ e := .inl (by omega)
      have he1 : 1 ≤ e := by omega
      obtain ⟨_, _, q1, _, _, q2, _, _, q3, R3⟩ := form_is he (ha he1) R1 i1 e1 b1 hlen hbn
      exact ⟨_, _, q1, _, _, q2, _, _, q3, _, rfl, R3⟩
    case many =>
      have he1 : 1 ≤ e := by
        have hp : k ≤ 7 ∨ 1 ≤ e := .inl (by omega)
        rcases hp with hp | hp
        · exfalso
          rename_i n0 n1 n2 n3 n4 n5 n6 n7 n8 n9
          have a0 := nek n0; have a1 := nek n1; have a2 := nek n2; have a3 := nek n3; have a4 := nek n4; have a5 := nek n5; have a6 := nek n6; have a7 := nek n7
          omega
        · exact hp
      obtain ⟨M2, k2, g2, h2, hk2, R2, i2, e2, b2⟩ := next_run hr1 i1 (n := 4) (by decide) (by decide)
      refine ⟨_, _, h2, fun _ hT0 => lp_ex4 (loop78_0 (CInv M0 Q x M W g formK e k2) (CEnd M0 Q x M W g formK e k2) (fun n a tn tc t M3 hI => by rw [dec e (by omega)]; exact collect_step (hf he1) (by omega) hlen hbn hI) (n := k2) (CInv.start (R1.trans R2) formK e k2 i2 (e2.trans e1) (b2.trans b1) rfl) hT0) (fun a n c M3 hE => ?_)⟩
      have hT : ∀ kind ∈ [27, 28], kidsS (Int.ofNat kind) noText noText k2 = some (List.replicate k2 3) ∧ formK kind ∧ kind ≠ 10 ∧ kind ≠ 30 ∧ kind < 36 := by
        intro kind hkd
        rcases (by omega : k2 = 0 ∨ k2 = 1 ∨ k2 = 2 ∨ k2 = 3) with rfl | rfl | rfl | rfl <;> (simp only [List.mem_cons, List.not_mem_nil, or_false] at hkd; rcases hkd with rfl | rfl <;> refine ⟨by decide +kernel, by decide, by decide, by decide, by decide⟩)
      obtain ⟨_, _, q1, _, q2, _, _, q3, R3⟩ := gather_res hE (by omega) hlen h.qlt [27, 28] (j := k % 2) (Nat.mod_lt _ (by decide)) hT (fun _ h => h) rfl rfl rfl
      exact ⟨_, remN (by decide) (by decide) _ _, _, _, q1, _, q2, _, _, q3, _, rfl, R3⟩
  case s3 =>
    have hm := full_pos hfl
    refine cnd_of (fun _ => ?z) fun _ => cnd_of (fun _ => ?t1) fun _ => cnd_of (fun _ => ?t2) fun _ => cnd_of (fun q => ?n3) fun _ => cnd_of (fun q => ?n4) fun _ => cnd_of (fun q => ?n5) fun _ => cnd_of (fun q => ?e6) fun _ => cnd_of (fun q => ?e7) fun _ => cnd_of (fun q => ?nt) fun _ => cnd_of (fun q => ?is_) fun _ => ?many
    case z =>
      obtain ⟨i, M2, g2, h2, ⟨y, o, q1, kind, q2, hkd⟩, R2, i2, e2, b2⟩ := pickI_run hr1 i1 [19, 20] (by decide) (by decide) (cs := [.int .i64 (Int.ofNat 19), .int .i64 (Int.ofNat 20)]) rfl
      have hT : kidsS (Int.ofNat kind) noText noText 0 = some [] ∧ formK kind ∧ kind < 36 := by
        simp only [List.mem_cons, List.not_mem_nil, or_false] at hkd
        rcases hkd with rfl | rfl <;> exact ⟨by decide +kernel, by decide, by decide⟩
      obtain ⟨i', M3, h3, R3⟩ := leaf_res (R1.trans R2) i2 (e2.trans e1) (b2.trans b1) (by rw [e2, e1]; omega) (kind := kind) (nm := noText) (ar := noText) hT.1 hT.2.2 (by decide) (by decide) (S := formK) hT.2.1 (H := e + 1 + 2) (k := XB (e + 1)) (by omega) (by omega)
      exact ⟨_, _, h2, _, _, q1, _, q2, _, _, h3, _, rfl, R3⟩
    case t1 | t2 =>
      obtain ⟨_, _, _, _, q1, _, _, q2, _, _, q3, _, q4, _, _, q5, _, _, q6, R6⟩ := form_tag he R1 i1 e1 b1 hlen hbn
      exact ⟨_, _, _, _, q1, _, _, q2, _, _, q3, _, q4, _, _, q5, _, _, q6, _, rfl, R6⟩
    case n3 =>
      have q := eqk q
      obtain ⟨_, _, q1, _, _, q2, _, q3, _, _, q4, _, _, q5, qc, R5⟩ := pair_res (number_draws e (by omega)) R1 i1 e1 b1 hlen hbn [22, 23, 24] (j := 0) (by decide) (s := 5) (S' := formK) hT3 (fun _ h => h) (iv := wrapF .i64 (Int.sub (Int.ofNat k) (Int.ofNat 3))) (by rw [q]; exact sub64 (by decide) (by decide)) rfl rfl
      exact ⟨_, _, q1, _, _, q2, _, q3, _, _, q4, _, _, q5, qc, _, rfl, R5⟩
    case n4 =>
      have q := eqk q
      obtain ⟨_, _, q1, _, _, q2, _, q3, _, _, q4, _, _, q5, qc, R5⟩ := pair_res (number_draws e (by omega)) R1 i1 e1 b1 hlen hbn [22, 23, 24] (j := 1) (by decide) (s := 5) (S' := formK) hT3 (fun _ h => h) (iv := wrapF .i64 (Int.sub (Int.ofNat k) (Int.ofNat 3))) (by rw [q]; exact sub64 (by decide) (by decide)) rfl rfl
      exact ⟨_, _, q1, _, _, q2, _, q3, _, _, q4, _, _, q5, qc, _, rfl, R5⟩
    case n5 =>
      have q := eqk q
      obtain ⟨_, _, q1, _, _, q2, _, q3, _, _, q4, _, _, q5, qc, R5⟩ := pair_res (number_draws e (by omega)) R1 i1 e1 b1 hlen hbn [22, 23, 24] (j := 2) (by decide) (s := 5) (S' := formK) hT3 (fun _ h => h) (iv := wrapF .i64 (Int.sub (Int.ofNat k) (Int.ofNat 3))) (by rw [q]; exact sub64 (by decide) (by decide)) rfl rfl
      exact ⟨_, _, q1, _, _, q2, _, q3, _, _, q4, _, _, q5, qc, _, rfl, R5⟩
    case e6 =>
      have q := eqk q
      obtain ⟨_, _, q1, _, _, q2, _, q3, _, _, q4, _, _, q5, qc, R5⟩ := pair_res (term_draws e (by omega)) R1 i1 e1 b1 hlen hbn [25, 26] (j := 0) (by decide) (s := 4) (S' := formK) hT2 (fun _ h => h) (iv := wrapF .i64 (Int.sub (Int.ofNat k) (Int.ofNat 6))) (by rw [q]; exact sub64 (by decide) (by decide)) rfl rfl
      exact ⟨_, _, q1, _, _, q2, _, q3, _, _, q4, _, _, q5, qc, _, rfl, R5⟩
    case e7 =>
      have q := eqk q
      obtain ⟨_, _, q1, _, _, q2, _, q3, _, _, q4, _, _, q5, qc, R5⟩ := pair_res (term_draws e (by omega)) R1 i1 e1 b1 hlen hbn [25, 26] (j := 1) (by decide) (s := 4) (S' := formK) hT2 (fun _ h => h) (iv := wrapF .i64 (Int.sub (Int.ofNat k) (Int.ofNat 6))) (by rw [q]; exact sub64 (by decide) (by decide)) rfl rfl
      exact ⟨_, _, q1, _, _, q2, _, q3, _, _, q4, _, _, q5, qc, _, rfl, R5⟩
    case nt =>
      have q := eqk q
      have hp : k ≤ 7 ∨ 1 ≤ e := .inr (by omega)
      have he1 : 1 ≤ e := by omega
      obtain ⟨_, _, q1, _, _, q2, R2⟩ := form_not he (hf he1) R1 i1 e1 b1 hlen hbn
      exact ⟨_, _, q1, _, _, q2, _, rfl, R2⟩
    case is_ =>
      have q := eqk q
      have hp : k ≤ 7 ∨ 1 ≤ e := .inr (by omega)
      have he1 : 1 ≤ e := by omega
      obtain ⟨_, _, q1, _, _, q2, _, _, q3, R3⟩ := form_is he (ha he1) R1 i1 e1 b1 hlen hbn
      exact ⟨_, _, q1, _, _, q2, _, _, q3, _, rfl, R3⟩
    case many =>
      have he1 : 1 ≤ e := by
        have hp : k ≤ 7 ∨ 1 ≤ e := .inr (by omega)
        rcases hp with hp | hp
        · exfalso
          rename_i n0 n1 n2 n3 n4 n5 n6 n7 n8 n9
          have a0 := nek n0; have a1 := nek n1; have a2 := nek n2; have a3 := nek n3; have a4 := nek n4; have a5 := nek n5; have a6 := nek n6; have a7 := nek n7
          omega
        · exact hp
      obtain ⟨M2, k2, g2, h2, hk2, R2, i2, e2, b2⟩ := next_run hr1 i1 (n := 4) (by decide) (by decide)
      refine ⟨_, _, h2, fun _ hT0 => lp_ex4 (loop78_0 (CInv M0 Q x M W g formK e k2) (CEnd M0 Q x M W g formK e k2) (fun n a tn tc t M3 hI => by rw [dec e (by omega)]; exact collect_step (hf he1) (by omega) hlen hbn hI) (n := k2) (CInv.start (R1.trans R2) formK e k2 i2 (e2.trans e1) (b2.trans b1) rfl) hT0) (fun a n c M3 hE => ?_)⟩
      have hT : ∀ kind ∈ [27, 28], kidsS (Int.ofNat kind) noText noText k2 = some (List.replicate k2 3) ∧ formK kind ∧ kind ≠ 10 ∧ kind ≠ 30 ∧ kind < 36 := by
        intro kind hkd
        rcases (by omega : k2 = 0 ∨ k2 = 1 ∨ k2 = 2 ∨ k2 = 3) with rfl | rfl | rfl | rfl <;> (simp only [List.mem_cons, List.not_mem_nil, or_false] at hkd; rcases hkd with rfl | rfl <;> refine ⟨by decide +kernel, by decide, by decide, by decide, by decide⟩)
      obtain ⟨_, _, q1, _, q2, _, _, q3, R3⟩ := gather_res hE (by omega) hlen h.qlt [27, 28] (j := k % 2) (Nat.mod_lt _ (by decide)) hT (fun _ h => h) rfl rfl rfl
      exact ⟨_, remN (by decide) (by decide) _ _, _, _, q1, _, q2, _, _, q3, _, rfl, R3⟩
theorem types_draw : ∀ e, e ≤ 20 → DrawsI 51 kindK e ∧ (1 ≤ e → DrawsI 78 formK e) ∧ (1 ≤ e → DrawsI 79 arrowK e) := by
  intro e
  induction e with
  | zero => intro _; exact ⟨kind_zero, fun h => by omega, fun h => by omega⟩
  | succ e ih =>
    intro he
    obtain ⟨h1, h2, h3⟩ := ih (by omega)
    exact ⟨kind_succ he h1 h2, fun _ => form_succ he h3 h2, fun _ => arrow_draws he h1⟩

end Go.Proofs.YtabkcbaknjenmaaAM

/-
  THE NODE LAWS: the trees that are drawn: expressions.
-/
set_option linter.unusedVariables false
set_option linter.unusedSimpArgs false
namespace Go.Proofs.YtabkcbaknjenmaaAM
open Go Go.Proofs
set_option maxRecDepth 100000
set_option maxHeartbeats 4000000

abbrev exprK (kk : Nat) : Prop := isS (Int.ofNat kk) 0 = true
theorem exprK_data {kk : Nat} (h : kk ≤ 4) : exprK kk := by
  show betw 0 12 (Int.ofNat kk) = true
  rw [betw_t]
  exact ⟨Int.natCast_nonneg kk, by show (kk : Int) ≤ 12; omega⟩

theorem KLoop.next {Q : List Nat} {M0 M M1 : Mem} {x : Nat} {W W1 : List Nat} {g g1 : GS} {P : Nat → Nat → Prop} {H k : Nat} {ks ls : List Nat} {a : Option Addr} {n c : Nat} (h : KLoop M0 Q x M W g P H k M1 W1 g1 ks ls a n c) {m : Nat} (hm : 0 < m) (hm2 : m < 1000) :
    ∃ j M2 g2, Ret Try.prog 31 [.pointer (some ⟨x, 0, none⟩), .int .i64 (Int.ofNat m)] M1 (.int .i64 (Int.ofNat j)) M2 ∧ j < m ∧ KLoop M0 Q x M W g P H k M2 W1 g2 ks ls a n c := by
  obtain ⟨r, hr⟩ := h.sim
  obtain ⟨M2, j, g2, h2, hj, R2, i2, e2, b2⟩ := next_run hr h.kidz.inv hm hm2
  exact ⟨j, M2, g2, h2, hj, h.go R2 (h.kidz.turn e2 i2) (b2.trans h.bd)⟩
theorem KLoop.str {Q : List Nat} {M0 M M1 : Mem} {x : Nat} {W W1 : List Nat} {g g1 : GS} {P : Nat → Nat → Prop} {H k : Nat} {ks ls : List Nat} {a : Option Addr} {n c : Nat} (h : KLoop M0 Q x M W g P H k M1 W1 g1 ks ls a n c) (hH : 1 ≤ H) (hP : P ks.length 1) (hlen : g.ns.length + k ≤ 900000) :
    ∃ s M2, Ret Try.prog 99 [.pointer (some ⟨x, 0, none⟩)] M1 (.string s) M2 ∧ ∃ j M3, Ret Try.prog 55 [.pointer (some ⟨x, 0, none⟩), .int .i64 (Int.ofNat 1), .string s, .string noText, .slice none 0 0] M2 (.int .i64 (Int.ofNat j)) M3 ∧
      ∃ W3 g3, KLoop M0 Q x M W g P H (k + 1) M3 W3 g3 (ks ++ [j]) ls a n c := by
  obtain ⟨r, hr⟩ := h.sim
  obtain ⟨s, M2, g2, h2, hs, R2, i2, e2, b2⟩ := gtext_run hr h.kidz.inv
  have K2 := h.go R2 (h.kidz.turn e2 i2) (b2.trans h.bd)
  obtain ⟨hs1, hs2⟩ := texts_str s hs
  obtain ⟨r2, hr2⟩ := R2.sim
  have l2 := K2.kidz.len
  obtain ⟨i, M3, h3, W3, g3, rfl, R3, m3⟩ := leaf_res (Run.refl hr2) i2 rfl rfl (by omega) (kind := 1) (nm := s) (ar := noText) hs1 (by decide) hs2 (by decide) (S := fun kk => kk = 1) rfl (H := 1) (k := 1) (by decide) (by decide)
  exact ⟨s, M2, h2, _, M3, h3, W3, g3, K2.go R3 (K2.kidz.snoc m3 hH (fun kk e => by subst e; exact hP)) (m3.bd.trans K2.bd)⟩
theorem KLoop.weak {Q : List Nat} {M0 M M1 : Mem} {x : Nat} {W W1 : List Nat} {g g1 : GS} {P : Nat → Nat → Prop} {H k k' : Nat} {ks ls : List Nat} {a : Option Addr} {n c : Nat} (h : KLoop M0 Q x M W g P H k M1 W1 g1 ks ls a n c) (hk : k ≤ k') : KLoop M0 Q x M W g P H k' M1 W1 g1 ks ls a n c :=
  ⟨h.run, h.sim, h.kidz.weak hk, h.own, h.lo, h.bd⟩
/-- One round has ended. -/
theorem collect_end {S : Nat → Prop} {e : Nat} {Q : List Nat} {M0 M : Mem} {x : Nat} {W : List Nat} {g : GS} {N : Nat} (hN : N ≤ 3) {n : Nat} (hn : 0 < n) {a : Option Addr} {c : Nat} {M1 : Mem} {W1 : List Nat} {g1 : GS} {ks : List Nat} {j k2 : Nat} (hks : ks.length + n = N)
    (K2 : KLoop M0 Q x M W g (fun _ kk => S kk) (e + 2) k2 M1 W1 g1 (ks ++ [j]) ks a ks.length c) (hk2 : k2 ≤ ks.length * XB e + XB e) :
    ∃ a2 n3 n4 M5, appendA Try.prog (M1 ++ [AObj.cells [.int .i64 (Int.ofNat j)] 1 .live]) 22 22 (.slice a ks.length c) (.slice (some ⟨M1.length, 0, none⟩) 1 1) = some (.slice a2 n3 n4, M5) ∧
      ∃ m, m < n ∧ CInv M0 Q x M W g S e N m a2 n3 n4 (wrapF .i64 (Int.sub (Int.ofNat n) (Int.ofNat 1))) M5 := by
  obtain ⟨a2, c2, M3, h3, K3⟩ := K2.app (by omega) (cs := [.int .i64 (Int.ofNat j)]) (new := [j]) rfl (m := 1) rfl (by decide) (by decide)
  refine ⟨a2, _, c2, M3, h3, n - 1, by omega, W1, g1, ks ++ [j], sub64 (by omega) (by omega), by simp; omega, by simp, ?_⟩
  have e1 : (ks ++ [j]).length * XB e = ks.length * XB e + XB e := by rw [List.length_append, Nat.add_mul]; simp
  rw [e1]; exact K3.weak hk2

theorem ops_kids : ∀ s ∈ opsL, kidsS (Int.ofNat 12) s noText (arityS s) = some (List.replicate (arityS s) 0) ∧ s.size ≤ 100 ∧ arityS s ≤ 3 := by
  have h : opsL.all (fun s => (kidsS (Int.ofNat 12) s noText (arityS s) == some (List.replicate (arityS s) 0)) && (decide (s.size ≤ 100) && decide (arityS s ≤ 3))) = true := by decide +kernel
  intro b hb
  have := List.all_eq_true.1 h b hb
  simpa [and_assoc] using this

theorem few_draws {e : Nat} (he : e + 1 ≤ 20) (hx : DrawsI 53 exprK e) : DrawsI 82 exprK (e + 1) := by
  intro M0 Q x M W g r h hg hlen hbn
  refine wp_res (w82 (p0 := x) (p1 := Int.ofNat (e + 1) - 1) (M := M) ?_)
  have hX : XB (e + 1) = 3 * XB e + 4 := rfl
  have h0 := XB_pos e
  obtain ⟨a, c, M3, h3, hO⟩ := ops_ret M
  obtain ⟨G, rfl⟩ := hO.1
  have R1 := Run.grow h G
  obtain ⟨r1, hr1⟩ := R1.sim
  obtain ⟨M5, k, g5, h5, hk, R5, i5, e5, b5⟩ := next_run hr1 hg (n := 16) (by decide) (by decide)
  have hrow : Row M5 a (strs opsL) := hO.row.mod R5.mod (fun y hy hw => by
    have := h.wlt _ hw; have := hO.ge y hy; omega)
  have hlt : k < opsL.length := hk
  obtain ⟨y, o, q1, q2⟩ := strs_at hrow hlt (c := c) rfl
  obtain ⟨t1, t2, t3⟩ := ops_kids _ (List.getElem_mem hlt)
  generalize opsL[k] = s at *
  obtain ⟨M10, h10, hK10⟩ := arity_ret s M5
  obtain ⟨G2, rfl⟩ := hK10
  obtain ⟨r5, hr5⟩ := R5.sim
  have R10 := (R1.trans R5).trans (Run.grow hr5 G2)
  refine ⟨_, _, _, _, h3, _, _, h5, _, _, q1, _, q2, _, _, h10, fun _ hT0 => lp_ex4 (loop82_0 (CInv M0 Q x M W g exprK e (arityS s)) (CEnd M0 Q x M W g exprK e (arityS s)) ?step (n := arityS s) (CInv.start R10 exprK e (arityS s) i5 e5 b5 rfl) hT0) (fun a n c M3 hE => ?_)⟩
  case step =>
    intro n a tn tc t M1 hI
    rw [dec e (by omega)]
    obtain ⟨W1, g1, ks, rfl, hks, rfl, hK⟩ := hI
    have hmul : ks.length * XB e ≤ 3 * XB e := Nat.mul_le_mul_right _ (by omega)
    refine cnd_of (fun hn => ?_) (fun hn => ?_)
    · have hn : 0 < n := by
        have : leF (Int.ofNat n) (Int.ofNat 0) = false := by simpa using hn
        rw [leF_f] at this; exact Int.ofNat_lt.1 this
      have hmul2 : ks.length * XB e ≤ 2 * XB e := Nat.mul_le_mul_right _ (by omega)
      refine cnd_of (fun _ => cnd_of (fun _ => ?d1) (fun _ => cnd_of (fun _ => ?d2) (fun _ => cnd_of (fun _ => ?d3) (fun _ => ?x1)))) (fun _ => ?x2)
      case d1 | d2 | d3 =>
        obtain ⟨j0, M2, g2, h2, hj0, K2⟩ := hK.next (m := 4) (by decide) (by decide)
        refine ⟨_, _, h2, cnd_of (fun _ => ?_) (fun _ => ?_)⟩
        · obtain ⟨s', M3, h3, j, M4, h4, W4, g4, K4⟩ := K2.str (by omega) (by decide) (by omega)
          obtain ⟨_, _, _, _, q3, q4⟩ := collect_end (by omega) hn hks K4 (by omega)
          exact ⟨_, _, h3, _, _, h4, _, _, _, _, q3, q4⟩
        · obtain ⟨j, M3, W3, g3, h3, K3⟩ := K2.draw hx (Nat.le_refl _) (fun _ h => h) (by omega) (by omega)
          obtain ⟨_, _, _, _, q3, q4⟩ := collect_end (by omega) hn hks K3 (by omega)
          exact ⟨_, _, h3, _, _, _, _, q3, q4⟩
      case x1 | x2 =>
        obtain ⟨j, M3, W3, g3, h3, K3⟩ := hK.draw hx (Nat.le_refl _) (fun _ h => h) (by omega) (by omega)
        obtain ⟨_, _, _, _, q3, q4⟩ := collect_end (by omega) hn hks K3 (by omega)
        exact ⟨_, _, h3, _, _, _, _, q3, q4⟩
    · have hn : n = 0 := by
        have : leF (Int.ofNat n) (Int.ofNat 0) = true := by simpa using hn
        rw [leF_t] at this
        have := Int.ofNat_le.1 this
        omega
      exact ⟨W1, g1, ks, by omega, by rw [show arityS s = ks.length by omega]; exact hK⟩
  · obtain ⟨W1, g1, ks, hks, hK⟩ := hE
    have hmul : arityS s * XB e ≤ 3 * XB e := Nat.mul_le_mul_right _ t3
    have K2 := hK.conv (P' := kidP 12 (List.replicate (arityS s) 0)) fun j2 hj2 kk hp => kidP_rep (by omega) hp (by decide) (by decide)
    have l2 := K2.kidz.len
    obtain ⟨i, M4, h4, R4⟩ := K2.node (by omega) (nm := s) (ar := noText) (by rw [hks]; exact t1) (by decide) t2 (by decide) (by omega) (S := exprK) (by decide) (H' := e + 1 + 2) (k' := XB (e + 1)) (by omega) (by omega) h.qlt
    exact ⟨_, _, h4, _, rfl, R4⟩

def PInv (M0 : Mem) (Q : List Nat) (x : Nat) (M : Mem) (W : List Nat) (g : GS) (e N : Nat) (n : Nat) (a : Option Addr) (tn tc : Nat) (t : Int) (M1 : Mem) : Prop :=
  ∃ W1 g1 ks z, t = Int.ofNat n ∧ z + n = N ∧ ks.length = 2 * z ∧ tn = ks.length ∧ KLoop M0 Q x M W g (fun j kk => exprK kk ∧ (j % 2 = 0 → kk = 1)) (e + 2) (z * (XB e + 1)) M1 W1 g1 ks ks a tn tc
def PEnd (M0 : Mem) (Q : List Nat) (x : Nat) (M : Mem) (W : List Nat) (g : GS) (e N : Nat) (a : Option Addr) (tn tc : Nat) (M1 : Mem) : Prop :=
  ∃ W1 g1 ks, ks.length = 2 * N ∧ KLoop M0 Q x M W g (fun j kk => exprK kk ∧ (j % 2 = 0 → kk = 1)) (e + 2) (N * (XB e + 1)) M1 W1 g1 ks ks a tn tc
theorem pairs_draws {e : Nat} (he : e + 1 ≤ 20) (hx : DrawsI 53 exprK e) : DrawsI 83 exprK (e + 1) := by
  intro M0 Q x M W g r h hg hlen hbn
  refine wp_res (w83 (p0 := x) (p1 := Int.ofNat (e + 1) - 1) (M := M) ?_)
  have hX : XB (e + 1) = 3 * XB e + 4 := rfl
  have h0 := XB_pos e
  obtain ⟨M1, N, g1, h1, hN, R1, i1, e1, b1⟩ := next_run h hg (n := 4) (by decide) (by decide)
  refine ⟨_, _, h1, fun _ hT0 => lp_ex4 (loop83_0 (PInv M0 Q x M W g e N) (PEnd M0 Q x M W g e N) ?step (n := N) ⟨W, g1, [], 0, rfl, by simp, rfl, rfl, by
    have := KLoop.start R1 (fun j kk => exprK kk ∧ (j % 2 = 0 → kk = 1)) (e + 2) i1 e1 b1
    simpa using this⟩ hT0) (fun a n c M3 hE => ?_)⟩
  case step =>
    intro n a tn tc t M1 hI
    rw [dec e (by omega)]
    obtain ⟨W1, g1, ks, z, rfl, hz, hks, rfl, hK⟩ := hI
    refine cnd_of (fun hn => ?_) (fun hn => ?_)
    · have hn : 0 < n := by
        have : leF (Int.ofNat n) (Int.ofNat 0) = false := by simpa using hn
        rw [leF_f] at this; exact Int.ofNat_lt.1 this
      have hmul2 : z * (XB e + 1) ≤ 2 * (XB e + 1) := Nat.mul_le_mul_right _ (by omega)
      obtain ⟨s', M3, h3, j, M4, h4, W4, g4, K4⟩ := hK.str (by omega) ⟨by decide, fun _ => rfl⟩ (by omega)
      obtain ⟨j2, M5, W5, g5, h5, K5⟩ := K4.draw hx (Nat.le_refl _) (fun kk hp => ⟨hp, fun e => by simp at e; omega⟩) (by omega) (by omega)
      have K5' : KLoop M0 Q x M W g (fun j kk => exprK kk ∧ (j % 2 = 0 → kk = 1)) (e + 2) (z * (XB e + 1) + 1 + XB e) M5 W5 g5 (ks ++ [j, j2]) ks a ks.length tc := by
        have e3 : ks ++ [j, j2] = ks ++ [j] ++ [j2] := by simp
        rw [e3]; exact K5
      obtain ⟨a2, c2, M6, h6, K6⟩ := K5'.app (by omega) (cs := [.int .i64 (Int.ofNat j), .int .i64 (Int.ofNat j2)]) (new := [j, j2]) rfl (m := 2) rfl (by decide) (by decide)
      refine ⟨_, _, h3, _, _, h4, _, _, h5, a2, _, c2, M6, h6, n - 1, by omega, W5, g5, ks ++ [j, j2], z + 1, sub64 (by omega) (by omega), by omega, by simp; omega, by simp, ?_⟩
      have e4 : (z + 1) * (XB e + 1) = z * (XB e + 1) + 1 + XB e := by rw [Nat.add_mul]; omega
      rw [e4]; exact K6
    · have hn : n = 0 := by
        have : leF (Int.ofNat n) (Int.ofNat 0) = true := by simpa using hn
        rw [leF_t] at this
        have := Int.ofNat_le.1 this
        omega
      exact ⟨W1, g1, ks, by omega, by rw [show N = z by omega]; exact hK⟩
  · obtain ⟨W1, g1, ks, hks, hK⟩ := hE
    have hmul : N * (XB e + 1) ≤ 3 * (XB e + 1) := Nat.mul_le_mul_right _ (by omega)
    have K2 := hK.conv (P' := kidP 10 (List.replicate (2 * N) 0)) fun j2 hj2 kk hp => ⟨by rw [List.getD_eq_getElem?_getD, List.getElem?_replicate_of_lt (by omega)]; exact hp.1, fun _ => hp.2, fun e => absurd e (by decide)⟩
    have l2 := K2.kidz.len
    have t1 : kidsS (Int.ofNat 10) noText noText (2 * N) = some (List.replicate (2 * N) 0) := by
      rcases (by omega : N = 0 ∨ N = 1 ∨ N = 2 ∨ N = 3) with rfl | rfl | rfl | rfl <;> decide +kernel
    obtain ⟨i, M4, h4, R4⟩ := K2.node (by omega) (nm := noText) (ar := noText) (by rw [hks]; exact t1) (by decide) (by decide) (by decide) (by omega) (S := exprK) (by decide) (H' := e + 1 + 2) (k' := XB (e + 1)) (by omega) (by omega) h.qlt
    exact ⟨_, _, h4, _, rfl, R4⟩

theorem names_fn : ∀ s ∈ namesG, kidsS (Int.ofNat 6) noText s 3 = some [2, 2, 0] ∧ kidsS (Int.ofNat 7) noText s 2 = some (List.replicate 2 0) ∧ s.size ≤ 100 ∧ ∀ nm ∈ namesG, kidsS (Int.ofNat 13) nm s 3 = some [2, 2, 0] := by
  have h : namesG.all (fun s => (kidsS (Int.ofNat 6) noText s 3 == some [2, 2, 0]) && ((kidsS (Int.ofNat 7) noText s 2 == some (List.replicate 2 0)) && (decide (s.size ≤ 100) && namesG.all fun nm => (kidsS (Int.ofNat 13) nm s 3 == some [2, 2, 0])))) = true := by decide +kernel
  intro b hb
  have := List.all_eq_true.1 h b hb
  simp only [Bool.and_eq_true, beq_iff_eq, decide_eq_true_eq, List.all_eq_true] at this
  exact this
theorem function_res {e : Nat} (he : e + 1 ≤ 20) (hx : DrawsI 53 exprK e) {kind : Nat} {nm : ByteArray} (hkn : (kind = 6 ∧ nm = noText) ∨ (kind = 13 ∧ nm ∈ namesG)) {Q : List Nat} {M0 M : Mem} {x : Nat} {W : List Nat} {g : GS} {r : Rep M0 Q M x W g} (h : r.Ok) (hg : GInv g) (hlen : g.ns.length + XB (e + 1) ≤ 900000) (hbn : g.bound.length + (e + 1) ≤ 1000) :
    ∃ i M', Ret Try.prog 32 [.pointer (some ⟨x, 0, none⟩), .int .i64 (Int.ofNat kind), .string nm, .int .i64 (Int.ofNat (e + 1) - 1)] M (.int .i64 i) M' ∧ ResI M0 Q x M W g (fun kk => kk = kind) (e + 1 + 2) (XB (e + 1)) i M' := by
  have hk := (types_draw e (by omega)).1
  refine wp_res (w32 (p0 := x) (p1 := Int.ofNat kind) (p2 := nm) (p3 := Int.ofNat (e + 1) - 1) (M := M) ?_)
  rw [dec e (by omega)]
  have hX : XB (e + 1) = 3 * XB e + 4 := rfl
  obtain ⟨s, M1, g1, h1, hs, R1, i1, e1, b1⟩ := binder_run h hg
  have K1 := (Kidz.nil (fun j kk => (j < 2 → kindK kk) ∧ (j = 2 → exprK kk)) (e + 2) i1).base e1
  obtain ⟨a, M2, W2, g2, h2, R2, K2, b2, _⟩ := hk.step R1 K1 (Nat.le_refl _) (fun _ h => ⟨fun _ => h, fun e => absurd e (by decide)⟩) (by omega) (by rw [b1]; omega)
  obtain ⟨M3, W3, h3, R3, K3⟩ := under_step R2 K2 (by rw [b2, b1]; omega) hs
  have b3 : (g2.under s).bound = g.bound ++ [s] := by simp [GS.under, b2, b1]
  obtain ⟨b, M4, W4, g4, h4, R4, K4, b4, _⟩ := hk.step R3 K3 (Nat.le_refl _) (fun _ h => ⟨fun _ => h, fun e => absurd e (by simp)⟩) (by omega) (by rw [b3]; simp; omega)
  obtain ⟨c, M5, W5, g5, h5, R5, K5, b5, _⟩ := hx.step R4 K4 (Nat.le_refl _) (fun _ h => ⟨fun e => absurd e (by simp), fun _ => h⟩) (by omega) (by rw [b4, b3]; simp; omega)
  obtain ⟨M6, h6, R6, K6, b6⟩ := up_step R5 K5 (b5.trans (b4.trans b3)) (by omega)
  have l6 := K6.len
  obtain ⟨t1, _, t3, t4⟩ := names_fn s hs
  have hnode : kidsS (Int.ofNat kind) nm s 3 = some [2, 2, 0] ∧ kind < 36 ∧ kind ≠ 10 ∧ kind ≠ 30 ∧ nm.size ≤ 100 := by
    rcases hkn with ⟨rfl, rfl⟩ | ⟨rfl, hn⟩
    · exact ⟨t1, by decide, by decide, by decide, by decide⟩
    · exact ⟨t4 nm hn, by decide, by decide, by decide, (names_var nm hn).2⟩
  obtain ⟨i, M7, h7, R7⟩ := node_res R6 (K6.conv (P' := kidP kind [2, 2, 0]) fun j hj kk hp => kidP_of (by
    have hj3 : j < 3 := hj
    rcases (by omega : j = 0 ∨ j = 1 ∨ j = 2) with rfl | rfl | rfl
    · exact hp.1 (by decide)
    · exact hp.1 (by decide)
    · exact hp.2 rfl) hnode.2.2.1 hnode.2.2.2.1) (by omega) (nm := nm) (ar := s) hnode.1 hnode.2.1 hnode.2.2.2.2 t3 (by simp) (S := fun kk => kk = kind) rfl b6 (H' := e + 1 + 2) (k' := XB (e + 1)) (by omega) (by omega) rfl rfl
  exact ⟨_, _, h1, _, _, h2, _, h3, _, _, h4, _, _, h5, _, h6, _, _, h7, _, rfl, R7⟩

theorem expr_zero : DrawsI 53 exprK 0 := by
  intro M0 Q x M W g r h hg hlen hbn
  refine wp_res (w53 (p0 := x) (p1 := Int.ofNat 0 - 1) (M := M) ?_)
  obtain ⟨M1, k, g1, h1, hk, R1, i1, e1, b1⟩ := next_run h hg (n := 24) (by decide) (by decide)
  obtain ⟨r1, hr1⟩ := R1.sim
  have hfull := full_ret hr1 (Int.ofNat 0 - 1)
  rw [full_low (by decide)] at hfull
  refine ⟨_, _, h1, _, _, hfull, cnd_t ⟨_, remN (by decide) (by decide) _ _, cnd_of (fun _ => ?_) (fun _ => ?_)⟩⟩
  · obtain ⟨i, M2, h2, R2⟩ := data_res hr1 i1 (by rw [e1]; omega)
    exact ⟨_, _, h2, _, rfl, (R2.base R1 e1 b1).mono (fun _ => exprK_data) (by decide) (by decide)⟩
  · obtain ⟨s, M2, h2, i, M3, h3, R3⟩ := leafT_res R1 i1 e1 b1 (by rw [e1]; omega) (by rw [b1]; omega) true (S := exprK) (by decide) (H := 0 + 2) (k := XB 0) (by decide) (by decide)
    exact ⟨_, _, h2, _, _, h3, _, rfl, R3⟩
theorem expr_succ {e : Nat} (he : e + 1 ≤ 20) (hx : DrawsI 53 exprK e) : DrawsI 53 exprK (e + 1) := by
  intro M0 Q x M W g r h hg hlen hbn
  refine wp_res (w53 (p0 := x) (p1 := Int.ofNat (e + 1) - 1) (M := M) ?_)
  rw [dec e (by omega)]
  obtain ⟨M1, k, g1, h1, hk, R1, i1, e1, b1⟩ := next_run h hg (n := 24) (by decide) (by decide)
  obtain ⟨r1, hr1⟩ := R1.sim
  have hX : XB (e + 1) = 3 * XB e + 4 := rfl
  have h0 := XB_pos e
  refine ⟨_, _, h1, _, _, full_ret hr1 _, cnd_of (fun _ => ⟨_, remN (by decide) (by decide) _ _, cnd_of (fun _ => ?data) (fun _ => ?leaf)⟩) (fun _ => cnd_of (fun _ => ⟨_, remN (by decide) (by decide) _ _, cnd_of (fun _ => ?data2) (fun _ => ?leaf2)⟩)
    (fun _ => cnd_of (fun _ => ?few) fun _ => cnd_of (fun _ => ?let_) fun _ => cnd_of (fun _ => ?if_) fun _ => cnd_of (fun _ => ?call) fun _ => cnd_of (fun _ => ?assert) fun _ => cnd_of (fun _ => ?pairs) fun _ => ?fn))⟩
  case data | data2 =>
    obtain ⟨i, M2, h2, R2⟩ := data_res hr1 i1 (by rw [e1]; omega)
    exact ⟨_, _, h2, _, rfl, (R2.base R1 e1 b1).mono (fun _ => exprK_data) (by omega) (by omega)⟩
  case leaf | leaf2 =>
    obtain ⟨s, M2, h2, i, M3, h3, R3⟩ := leafT_res R1 i1 e1 b1 (by rw [e1]; omega) (by rw [b1]; omega) true (S := exprK) (by decide) (H := e + 1 + 2) (k := XB (e + 1)) (by omega) (by omega)
    exact ⟨_, _, h2, _, _, h3, _, rfl, R3⟩
  case few =>
    obtain ⟨i, M2, h2, R2⟩ := few_draws he hx M0 Q x M1 W g1 r1 hr1 i1 (by rw [e1]; omega) (by rw [b1]; omega)
    exact ⟨_, _, h2, _, rfl, R2.base R1 e1 b1⟩
  case pairs =>
    obtain ⟨i, M2, h2, R2⟩ := pairs_draws he hx M0 Q x M1 W g1 r1 hr1 i1 (by rw [e1]; omega) (by rw [b1]; omega)
    exact ⟨_, _, h2, _, rfl, R2.base R1 e1 b1⟩
  case fn =>
    obtain ⟨i, M2, h2, R2⟩ := function_res he hx (.inl ⟨rfl, rfl⟩) hr1 i1 (by rw [e1]; omega) (by rw [b1]; omega)
    exact ⟨_, _, h2, _, rfl, (R2.base R1 e1 b1).mono (fun _ h => by rw [show _ = 6 from h]; decide) (Nat.le_refl _) (Nat.le_refl _)⟩
  case let_ =>
    obtain ⟨s, M2, g2, h2, hs, R2, i2, e2, b2⟩ := binder_run hr1 i1
    have K2 := (Kidz.nil (fun _ kk => exprK kk) (e + 2) i2).base (e2.trans e1)
    obtain ⟨a, M3, W3, g3, h3, R3, K3, b3, _⟩ := hx.step (R1.trans R2) K2 (Nat.le_refl _) (fun _ h => h) (by omega) (by rw [b2, b1]; omega)
    obtain ⟨M4, W4, h4, R4, K4⟩ := under_step R3 K3 (by rw [b3, b2, b1]; omega) hs
    have b4 : (g3.under s).bound = g.bound ++ [s] := by simp [GS.under, b3, b2, b1]
    obtain ⟨b, M5, W5, g5, h5, R5, K5, b5, _⟩ := hx.step R4 K4 (Nat.le_refl _) (fun _ h => h) (by omega) (by rw [b4]; simp; omega)
    obtain ⟨M6, h6, R6, K6, b6⟩ := up_step R5 K5 (b5.trans b4) (by omega)
    have l6 := K6.len
    obtain ⟨_, t1, t3, _⟩ := names_fn s hs
    obtain ⟨i, M7, h7, R7⟩ := node_res R6 (K6.conv fun j hj kk hp => kidP_rep (kind := 7) (m := 2) (s := 0) hj hp (by decide) (by decide)) (by omega) (nm := noText) (ar := s) t1 (by decide) (by decide) t3 (by simp) (S := exprK) (by decide) b6 (H' := e + 1 + 2) (k' := XB (e + 1)) (by omega) (by omega) rfl rfl
    exact ⟨_, _, h2, _, _, h3, _, h4, _, _, h5, _, h6, _, _, h7, _, rfl, R7⟩
  case if_ =>
    have K1 := (Kidz.nil (fun _ kk => exprK kk) (e + 2) i1).base e1
    obtain ⟨a, M2, W2, g2, h2, R2, K2, b2, _⟩ := hx.step R1 K1 (Nat.le_refl _) (fun _ h => h) (by omega) (by rw [b1]; omega)
    obtain ⟨b, M3, W3, g3, h3, R3, K3, b3, _⟩ := hx.step R2 K2 (Nat.le_refl _) (fun _ h => h) (by omega) (by rw [b2, b1]; omega)
    obtain ⟨c, M4, W4, g4, h4, R4, K4, b4, _⟩ := hx.step R3 K3 (Nat.le_refl _) (fun _ h => h) (by omega) (by rw [b3, b2, b1]; omega)
    have l4 := K4.len
    obtain ⟨i, M5, h5, R5⟩ := node_res R4 (K4.conv fun j hj kk hp => kidP_rep (kind := 8) (m := 3) (s := 0) hj hp (by decide) (by decide)) (by omega) (nm := noText) (ar := noText) (by show kidsS _ _ _ 3 = _; decide +kernel) (by decide) (by decide) (by decide) (by simp) (S := exprK) (by decide) (b4.trans (b3.trans (b2.trans b1))) (H' := e + 1 + 2) (k' := XB (e + 1)) (by omega) (by omega) rfl rfl
    exact ⟨_, _, h2, _, _, h3, _, _, h4, _, _, h5, _, rfl, R5⟩
  case call =>
    have K1 := (Kidz.nil (fun _ kk => exprK kk) (e + 2) i1).base e1
    obtain ⟨a, M2, W2, g2, h2, R2, K2, b2, _⟩ := hx.step R1 K1 (Nat.le_refl _) (fun _ h => h) (by omega) (by rw [b1]; omega)
    obtain ⟨b, M3, W3, g3, h3, R3, K3, b3, _⟩ := hx.step R2 K2 (Nat.le_refl _) (fun _ h => h) (by omega) (by rw [b2, b1]; omega)
    have l3 := K3.len
    obtain ⟨i, M5, h5, R5⟩ := node_res R3 (K3.conv fun j hj kk hp => kidP_rep (kind := 11) (m := 2) (s := 0) hj hp (by decide) (by decide)) (by omega) (nm := noText) (ar := noText) (by show kidsS _ _ _ 2 = _; decide +kernel) (by decide) (by decide) (by decide) (by simp) (S := exprK) (by decide) (b3.trans (b2.trans b1)) (H' := e + 1 + 2) (k' := XB (e + 1)) (by omega) (by omega) rfl rfl
    exact ⟨_, _, h2, _, _, h3, _, _, h5, _, rfl, R5⟩
  case assert =>
    have K1 := (Kidz.nil (fun _ kk => exprK kk) (e + 2) i1).base e1
    obtain ⟨a, M2, W2, g2, h2, R2, K2, b2, _⟩ := hx.step R1 K1 (Nat.le_refl _) (fun _ h => h) (by omega) (by rw [b1]; omega)
    have l2 := K2.len
    obtain ⟨i, M5, h5, R5⟩ := node_res R2 (K2.conv fun j hj kk hp => kidP_rep (kind := 9) (m := 1) (s := 0) hj hp (by decide) (by decide)) (by omega) (nm := noText) (ar := noText) (by show kidsS _ _ _ 1 = _; decide +kernel) (by decide) (by decide) (by decide) (by simp) (S := exprK) (by decide) (b2.trans b1) (H' := e + 1 + 2) (k' := XB (e + 1)) (by omega) (by omega) rfl rfl
    exact ⟨_, _, h2, _, _, h5, _, rfl, R5⟩
theorem expr_draws : ∀ e, e ≤ 20 → DrawsI 53 exprK e
  | 0, _ => expr_zero
  | e + 1, he => expr_succ he (expr_draws e (by omega))

end Go.Proofs.YtabkcbaknjenmaaAM

/-
  THE NODE LAWS: the trees that are drawn: the whole tree. (Written by genNG14.py.)
-/
set_option linter.unusedVariables false
set_option linter.unusedSimpArgs false
namespace Go.Proofs.YtabkcbaknjenmaaAM
open Go Go.Proofs
set_option maxRecDepth 100000
set_option maxHeartbeats 4000000

theorem names_add {Q : List Nat} {M0 M : Mem} {x : Nat} {W : List Nat} {g : GS} {r : Rep M0 Q M x W g} (h : r.Ok) (hbn : g.names.length ≤ 100000) (nm : ByteArray) :
    ∃ a n c, rdVar Try.prog M 53 x 4 = some (.slice a n c) ∧ ∃ a' n' c' M9, appendA Try.prog (M ++ [AObj.cells [.string nm] 1 .live]) 53 53 (.slice a n c) (.slice (some ⟨M.length, 0, none⟩) 1 1) = some (.slice a' n' c', M9) ∧
      ∃ M10, wrCells M9 x 4 [.slice a' n' c'] = some M10 ∧ ∃ W' r', (r' : Rep M0 Q M10 x W' ({ g with names := g.names ++ [nm] })).Ok ∧ Mod M M10 W ∧ (∀ y ∈ W', y ∈ W ∨ M.length ≤ y) := by
  have hA := h.at_
  have hlen1 : (M ++ [AObj.cells [.string nm] 1 .live]).length = M.length + 1 := by simp
  have hk1 : Keep M0 (M ++ [AObj.cells [.string nm] 1 .live]) := h.n.1.trans (.app _ _)
  have hb1 := h.f.mod hk1 (.app M [AObj.cells [.string nm] 1 .live] []) (by simp)
  obtain ⟨c', M9, h9, hO9, hm9, hl9, hc9⟩ := append_own2 E53 hb1 (src_at (n := 1) (c := 1) (get_last M _) rfl) rfl rfl (by omega) (by omega) (by decide)
  have hxl := (List.getElem?_eq_some_iff.1 h.obj).1
  have hx9 : M9[x]? = some (.cells (srcV g r.la r.lc r.na r.nc r.da r.dc r.fa r.fc r.ba r.bc) 6 .live) := by
    rw [hm9.2 x (by omega) (fun hm => h.notx x (.inr (.inr (.inl hm))) rfl), List.getElem?_append_left hxl]; exact h.obj
  have hwr : wrCells M9 x 4 [.slice (some ⟨(M ++ [AObj.cells [.string nm] 1 .live]).length, 0, none⟩) (g.names.length + 1) c'] =
      some (M9.set x (.cells (srcV ({ g with names := g.names ++ [nm] }) r.la r.lc r.na r.nc r.da r.dc (some ⟨M.length + 1, 0, none⟩) c' r.ba r.bc) 6 .live)) := by
    rw [wrCells_at hx9 (by show 4 + 1 ≤ 6; omega) rfl, hlen1]
    simp [srcV, splice]
  have hx9l := (List.getElem?_eq_some_iff.1 hx9).1
  have hm10 : Mod M9 (M9.set x (.cells (srcV ({ g with names := g.names ++ [nm] }) r.la r.lc r.na r.nc r.da r.dc (some ⟨M.length + 1, 0, none⟩) c' r.ba r.bc) 6 .live)) [x] := Mod.set M9 x _ (by simp)
  have hmT : Mod M (M9.set x (.cells (srcV ({ g with names := g.names ++ [nm] }) r.la r.lc r.na r.nc r.da r.dc (some ⟨M.length + 1, 0, none⟩) c' r.ba r.bc) 6 .live)) (x :: blk r.fa) := by
    refine ((Mod.app M _ (x :: blk r.fa)).trans hm9 (fun y hy => .inl (by simp [hy]))).trans hm10 (fun y hy => .inl (by simp at hy; simp [hy]))
  have hsub : ∀ y ∈ (x :: blk r.fa), y ∈ W := by
    intro y hy; rw [h.w]; simp only [List.mem_cons, List.mem_append] at hy ⊢
    rcases hy with h | h
    · exact .inl h
    · exact .inr (.inr (.inr (.inl h)))
  have hmW : Mod M (M9.set x (.cells (srcV ({ g with names := g.names ++ [nm] }) r.la r.lc r.na r.nc r.da r.dc (some ⟨M.length + 1, 0, none⟩) c' r.ba r.bc) 6 .live)) W := ⟨hmT.1, fun y hy hn => hmT.2 y hy (fun hm => hn (hsub y hm))⟩
  have hk : Keep M0 (M9.set x (.cells (srcV ({ g with names := g.names ++ [nm] }) r.la r.lc r.na r.nc r.da r.dc (some ⟨M.length + 1, 0, none⟩) c' r.ba r.bc) 6 .live)) := hO9.1.set h.hx _
  have hnd := h.nd
  rw [h.w] at hnd
  have hnd1 := List.nodup_cons.1 hnd
  have e1 := List.nodup_append.1 hnd1.2
  have e2 := List.nodup_append.1 e1.2.1
  have e3 := List.nodup_append.1 e2.2.1
  have hdis : ∀ y, (y ∈ blk r.na ∨ y ∈ blk r.da ∨ y ∈ blk r.ba) → y ∉ (x :: blk r.fa) := by
    intro y hy hm
    simp only [List.mem_cons] at hm
    rcases hm with e | hm
    · exact h.notx y (by rcases hy with h | h | h; exact .inl h; exact .inr (.inl h); exact .inr (.inr (.inr (h)))) e
    · rcases hy with hy | hy | hy
      · exact e1.2.2 y hy y (List.mem_append_right _ (List.mem_append_left _ hm)) rfl
      · exact e2.2.2 y hy y (List.mem_append_left _ hm) rfl
      · exact e3.2.2 y hm y (hy) rfl
  have hold : ∀ y, (y ∈ blk r.na ∨ y ∈ blk r.da ∨ y ∈ blk r.ba) → y ∈ W ∧ y < M.length := by
    intro y hy
    have : y ∈ W := by
      rw [h.w]; simp only [List.mem_cons, List.mem_append]
      rcases hy with h | h | h
      · exact .inr (.inl h)
      · exact .inr (.inr (.inl h))
      · exact .inr (.inr (.inr (.inr (h))))
    exact ⟨this, h.wlt y this⟩
  have hW' : ∀ y ∈ (x :: (blk r.na ++ (blk r.da ++ ([M.length + 1] ++ blk r.ba)))), y ∈ W ∨ M.length ≤ y := by
    intro y hy
    simp only [List.mem_cons, List.mem_append, List.not_mem_nil, or_false] at hy
    rcases hy with e | e | e | e | e
    · exact .inl (e ▸ h.xW)
    · exact .inl (hold y (.inl e)).1
    · exact .inl (hold y (.inr (.inl e))).1
    · exact .inr (by omega)
    · exact .inl (hold y (.inr (.inr (e)))).1
  have hobj : (M9.set x (.cells (srcV ({ g with names := g.names ++ [nm] }) r.la r.lc r.na r.nc r.da r.dc (some ⟨M.length + 1, 0, none⟩) c' r.ba r.bc) 6 .live))[x]? = some (.cells (srcV ({ g with names := g.names ++ [nm] }) r.la r.lc r.na r.nc r.da r.dc (some ⟨M.length + 1, 0, none⟩) c' r.ba r.bc) 6 .live) := by
    rw [List.getElem?_set]; simp [hx9l]
  rw [hlen1] at hO9
  refine ⟨_, _, _, hA.rd k53 rfl, _, _, _, M9, h9, _, hwr, x :: (blk r.na ++ (blk r.da ++ ([M.length + 1] ++ blk r.ba))), ⟨r.la, r.lc, r.na, r.nc, r.da, r.dc, some ⟨M.length + 1, 0, none⟩, c', r.ba, r.bc, r.cs⟩,
    ⟨h.hx, hobj, h.l.mod hmT ?_, h.lb, h.n.mod hk hmT (fun y hy => hdis y (.inl hy)), h.ns.mod hmT (fun y hy => List.mem_append_left _ (hsub y hy)) (fun y hy => by
      rcases List.mem_append.1 hy with h1 | h1
      · rcases hW' y h1 with h2 | h2
        · exact .inl (List.mem_append_left _ h2)
        · exact .inr h2
      · exact .inl (List.mem_append_right _ h1)), fun y hy => ⟨fun hw => (hW' y hw).elim (h.q y hy).1 (fun h2 => by have := (h.q y hy).2; omega), Nat.lt_of_lt_of_le (h.q y hy).2 hmT.1⟩, h.d.mod hk hmT (fun y hy => hdis y (.inr (.inl hy))), ?_, h.b.mod hk hmT (fun y hy => hdis y (.inr (.inr (hy)))), h.bU, rfl, ?_⟩, hmW, hW'⟩
  · intro y hy hm
    have h1 := h.lb y hy
    simp only [List.mem_cons] at hm
    rcases hm with e | hm
    · have := h.hx; omega
    · have := h.f.ge y hm; omega
  · have := hO9.mod hk hm10 (fun y hy => by simp [blk] at hy; subst hy; simp; omega)
    simpa [strs] using this
  · refine List.nodup_cons.2 ⟨?_, ?_⟩
    · intro hm
      simp only [List.mem_append, List.mem_cons, List.not_mem_nil, or_false] at hm
      rcases hm with e | e | e | e
      · exact h.notx x (.inl e) rfl
      · exact h.notx x (.inr (.inl e)) rfl
      · omega
      · exact h.notx x (.inr (.inr (.inr (e)))) rfl
    · refine List.nodup_append.2 ⟨e1.1, List.nodup_append.2 ⟨e2.1, List.nodup_append.2 ⟨(by simp), e3.2.1, ?_⟩, ?_⟩, ?_⟩
      · intro y hy z hz e
        subst e
        simp only [List.mem_singleton] at hy
        subst hy
        have := (hold (M.length + 1) (.inr (.inr (hz)))).2; omega
      · intro y hy z hz e
        subst e
        simp only [List.mem_append, List.mem_singleton] at hz
        rcases hz with hz | hz
        · have := (hold y (.inr (.inl hy))).2; omega
        · exact e2.2.2 y hy y (List.mem_append_right _ (hz)) rfl
      · intro y hy z hz e
        subst e
        simp only [List.mem_append, List.mem_singleton] at hz
        rcases hz with hz | hz | hz
        · exact e1.2.2 y hy y (List.mem_append_left _ hz) rfl
        · have := (hold y (.inl hy)).2; omega
        · exact e1.2.2 y hy y (List.mem_append_right _ (List.mem_append_right _ (hz))) rfl
theorem defs_add {Q : List Nat} {M0 M : Mem} {x : Nat} {W : List Nat} {g : GS} {r : Rep M0 Q M x W g} (h : r.Ok) (hbn : g.defs.length ≤ 100000) (at_ : Nat) :
    ∃ a n c, rdVar Try.prog M 22 x 3 = some (.slice a n c) ∧ ∃ a' n' c' M9, appendA Try.prog (M ++ [AObj.cells [.int .i64 (Int.ofNat at_)] 1 .live]) 22 22 (.slice a n c) (.slice (some ⟨M.length, 0, none⟩) 1 1) = some (.slice a' n' c', M9) ∧
      ∃ M10, wrCells M9 x 3 [.slice a' n' c'] = some M10 ∧ ∃ W' r', (r' : Rep M0 Q M10 x W' ({ g with defs := g.defs ++ [at_] })).Ok ∧ Mod M M10 W ∧ (∀ y ∈ W', y ∈ W ∨ M.length ≤ y) := by
  have hA := h.at_
  have hlen1 : (M ++ [AObj.cells [.int .i64 (Int.ofNat at_)] 1 .live]).length = M.length + 1 := by simp
  have hk1 : Keep M0 (M ++ [AObj.cells [.int .i64 (Int.ofNat at_)] 1 .live]) := h.n.1.trans (.app _ _)
  have hb1 := h.d.mod hk1 (.app M [AObj.cells [.int .i64 (Int.ofNat at_)] 1 .live] []) (by simp)
  obtain ⟨c', M9, h9, hO9, hm9, hl9, hc9⟩ := append_own2 E22 hb1 (src_at (n := 1) (c := 1) (get_last M _) rfl) rfl rfl (by omega) (by omega) (by decide)
  have hxl := (List.getElem?_eq_some_iff.1 h.obj).1
  have hx9 : M9[x]? = some (.cells (srcV g r.la r.lc r.na r.nc r.da r.dc r.fa r.fc r.ba r.bc) 6 .live) := by
    rw [hm9.2 x (by omega) (fun hm => h.notx x (.inr (.inl hm)) rfl), List.getElem?_append_left hxl]; exact h.obj
  have hwr : wrCells M9 x 3 [.slice (some ⟨(M ++ [AObj.cells [.int .i64 (Int.ofNat at_)] 1 .live]).length, 0, none⟩) (g.defs.length + 1) c'] =
      some (M9.set x (.cells (srcV ({ g with defs := g.defs ++ [at_] }) r.la r.lc r.na r.nc (some ⟨M.length + 1, 0, none⟩) c' r.fa r.fc r.ba r.bc) 6 .live)) := by
    rw [wrCells_at hx9 (by show 3 + 1 ≤ 6; omega) rfl, hlen1]
    simp [srcV, splice]
  have hx9l := (List.getElem?_eq_some_iff.1 hx9).1
  have hm10 : Mod M9 (M9.set x (.cells (srcV ({ g with defs := g.defs ++ [at_] }) r.la r.lc r.na r.nc (some ⟨M.length + 1, 0, none⟩) c' r.fa r.fc r.ba r.bc) 6 .live)) [x] := Mod.set M9 x _ (by simp)
  have hmT : Mod M (M9.set x (.cells (srcV ({ g with defs := g.defs ++ [at_] }) r.la r.lc r.na r.nc (some ⟨M.length + 1, 0, none⟩) c' r.fa r.fc r.ba r.bc) 6 .live)) (x :: blk r.da) := by
    refine ((Mod.app M _ (x :: blk r.da)).trans hm9 (fun y hy => .inl (by simp [hy]))).trans hm10 (fun y hy => .inl (by simp at hy; simp [hy]))
  have hsub : ∀ y ∈ (x :: blk r.da), y ∈ W := by
    intro y hy; rw [h.w]; simp only [List.mem_cons, List.mem_append] at hy ⊢
    rcases hy with h | h
    · exact .inl h
    · exact .inr (.inr (.inl h))
  have hmW : Mod M (M9.set x (.cells (srcV ({ g with defs := g.defs ++ [at_] }) r.la r.lc r.na r.nc (some ⟨M.length + 1, 0, none⟩) c' r.fa r.fc r.ba r.bc) 6 .live)) W := ⟨hmT.1, fun y hy hn => hmT.2 y hy (fun hm => hn (hsub y hm))⟩
  have hk : Keep M0 (M9.set x (.cells (srcV ({ g with defs := g.defs ++ [at_] }) r.la r.lc r.na r.nc (some ⟨M.length + 1, 0, none⟩) c' r.fa r.fc r.ba r.bc) 6 .live)) := hO9.1.set h.hx _
  have hnd := h.nd
  rw [h.w] at hnd
  have hnd1 := List.nodup_cons.1 hnd
  have e1 := List.nodup_append.1 hnd1.2
  have e2 := List.nodup_append.1 e1.2.1
  have e3 := List.nodup_append.1 e2.2.1
  have hdis : ∀ y, (y ∈ blk r.na ∨ y ∈ blk r.fa ∨ y ∈ blk r.ba) → y ∉ (x :: blk r.da) := by
    intro y hy hm
    simp only [List.mem_cons] at hm
    rcases hm with e | hm
    · exact h.notx y (by rcases hy with h | h | h; exact .inl h; exact .inr (.inr (.inl h)); exact .inr (.inr (.inr (h)))) e
    · rcases hy with hy | hy | hy
      · exact e1.2.2 y hy y (List.mem_append_left _ hm) rfl
      · exact e2.2.2 y hm y (List.mem_append_left _ hy) rfl
      · exact e2.2.2 y hm y (List.mem_append_right _ (hy)) rfl
  have hold : ∀ y, (y ∈ blk r.na ∨ y ∈ blk r.fa ∨ y ∈ blk r.ba) → y ∈ W ∧ y < M.length := by
    intro y hy
    have : y ∈ W := by
      rw [h.w]; simp only [List.mem_cons, List.mem_append]
      rcases hy with h | h | h
      · exact .inr (.inl h)
      · exact .inr (.inr (.inr (.inl h)))
      · exact .inr (.inr (.inr (.inr (h))))
    exact ⟨this, h.wlt y this⟩
  have hW' : ∀ y ∈ (x :: (blk r.na ++ ([M.length + 1] ++ (blk r.fa ++ blk r.ba)))), y ∈ W ∨ M.length ≤ y := by
    intro y hy
    simp only [List.mem_cons, List.mem_append, List.not_mem_nil, or_false] at hy
    rcases hy with e | e | e | e | e
    · exact .inl (e ▸ h.xW)
    · exact .inl (hold y (.inl e)).1
    · exact .inr (by omega)
    · exact .inl (hold y (.inr (.inl e))).1
    · exact .inl (hold y (.inr (.inr (e)))).1
  have hobj : (M9.set x (.cells (srcV ({ g with defs := g.defs ++ [at_] }) r.la r.lc r.na r.nc (some ⟨M.length + 1, 0, none⟩) c' r.fa r.fc r.ba r.bc) 6 .live))[x]? = some (.cells (srcV ({ g with defs := g.defs ++ [at_] }) r.la r.lc r.na r.nc (some ⟨M.length + 1, 0, none⟩) c' r.fa r.fc r.ba r.bc) 6 .live) := by
    rw [List.getElem?_set]; simp [hx9l]
  rw [hlen1] at hO9
  refine ⟨_, _, _, hA.rd k22 rfl, _, _, _, M9, h9, _, hwr, x :: (blk r.na ++ ([M.length + 1] ++ (blk r.fa ++ blk r.ba))), ⟨r.la, r.lc, r.na, r.nc, some ⟨M.length + 1, 0, none⟩, c', r.fa, r.fc, r.ba, r.bc, r.cs⟩,
    ⟨h.hx, hobj, h.l.mod hmT ?_, h.lb, h.n.mod hk hmT (fun y hy => hdis y (.inl hy)), h.ns.mod hmT (fun y hy => List.mem_append_left _ (hsub y hy)) (fun y hy => by
      rcases List.mem_append.1 hy with h1 | h1
      · rcases hW' y h1 with h2 | h2
        · exact .inl (List.mem_append_left _ h2)
        · exact .inr h2
      · exact .inl (List.mem_append_right _ h1)), fun y hy => ⟨fun hw => (hW' y hw).elim (h.q y hy).1 (fun h2 => by have := (h.q y hy).2; omega), Nat.lt_of_lt_of_le (h.q y hy).2 hmT.1⟩, ?_, h.f.mod hk hmT (fun y hy => hdis y (.inr (.inl hy))), h.b.mod hk hmT (fun y hy => hdis y (.inr (.inr (hy)))), h.bU, rfl, ?_⟩, hmW, hW'⟩
  · intro y hy hm
    have h1 := h.lb y hy
    simp only [List.mem_cons] at hm
    rcases hm with e | hm
    · have := h.hx; omega
    · have := h.d.ge y hm; omega
  · have := hO9.mod hk hm10 (fun y hy => by simp [blk] at hy; subst hy; simp; omega)
    simpa [ints] using this
  · refine List.nodup_cons.2 ⟨?_, ?_⟩
    · intro hm
      simp only [List.mem_append, List.mem_cons, List.not_mem_nil, or_false] at hm
      rcases hm with e | e | e | e
      · exact h.notx x (.inl e) rfl
      · omega
      · exact h.notx x (.inr (.inr (.inl e))) rfl
      · exact h.notx x (.inr (.inr (.inr (e)))) rfl
    · refine List.nodup_append.2 ⟨e1.1, List.nodup_append.2 ⟨(by simp), List.nodup_append.2 ⟨e3.1, e3.2.1, ?_⟩, ?_⟩, ?_⟩
      · intro y hy z hz e
        subst e
        exact e3.2.2 y hy y (hz) rfl
      · intro y hy z hz e
        subst e
        simp only [List.mem_singleton] at hy
        subst hy
        simp only [List.mem_append] at hz
        rcases hz with hz | hz
        · have := (hold (M.length + 1) (.inr (.inl hz))).2; omega
        · have := (hold (M.length + 1) (.inr (.inr (hz)))).2; omega
      · intro y hy z hz e
        subst e
        simp only [List.mem_append, List.mem_singleton] at hz
        rcases hz with hz | hz | hz
        · have := (hold y (.inl hy)).2; omega
        · exact e1.2.2 y hy y (List.mem_append_right _ (List.mem_append_left _ hz)) rfl
        · exact e1.2.2 y hy y (List.mem_append_right _ (List.mem_append_right _ (hz))) rfl

theorem lp_ex1 {L R S : Mem → Prop} (h : ∃ M', L M' ∧ R M') (k : ∀ M', R M' → S M') : ∃ M', L M' ∧ ((Nat → Value) → S M') := by
  obtain ⟨M', h1, h2⟩ := h
  exact ⟨M', h1, fun _ => k _ h2⟩
theorem At.rdAt {M : Mem} {x o n : Nat} {vs : List Value} (h : At M x vs) {ty : TypeId} (hk : (kindT Try.prog ty).map aggK = some true) (hs : sizeT Try.prog ty = some n) (hn : o + n ≤ vs.length) : rdVar Try.prog M ty x o = some (.agg ⟨(vs.drop o).take n⟩) := by
  obtain ⟨u, m, hm, h⟩ := h
  unfold rdVar
  cases hk' : kindT Try.prog ty with
  | none => rw [hk'] at hk; simp at hk
  | some k =>
    rw [hk'] at hk
    simp only [Option.map_some, Option.some.injEq] at hk
    simp only [Option.bind_some, hk, if_true, hs]
    rw [rdCells_at h hm hn]
    simp
theorem k32 : (kindT Try.prog 32).map aggK = some true := by kernel_rfl
theorem s32 : sizeT Try.prog 32 = some 2 := by kernel_rfl
/-- A tree that has been drawn, as it lies in memory. -/
structure Drawn (M M' : Mem) (v : Value) (ns : List GN) (defs : List Nat) : Prop where
  ex : ∃ na nc da dc cs V, v = .agg ⟨[.slice na ns.length nc, .slice da defs.length dc]⟩ ∧ Own M M' 5 na ns.length nc cs ∧ NodesRep M' V 0 ns cs ∧ (∀ y ∈ blk na, y ∈ V) ∧ (∀ y ∈ blk da, y ∈ V) ∧
    Own M M' 1 da defs.length dc (ints (defs.map Int.ofNat)) ∧ (∀ y ∈ blk na, y ∉ blk da)
  ok : ∀ i n, ns[i]? = some n → OkN ns i n
  whole : Fits ns 11 (fun _ kk => kk = 13) 0 0 defs ns.length
  len : 1 ≤ defs.length ∧ defs.length ≤ 3 ∧ ns.length ≤ 200000

theorem Own.low {M M0 M1 M2 : Mem} {sz n c : Nat} {a : Option Addr} {l : List Value} (h : Own M0 M1 sz a n c l) (hM : M.length ≤ M0.length) (hk : Keep M M2) (he : ∀ y, M0.length ≤ y → M2[y]? = M1[y]?) : Own M M2 sz a n c l := by
  obtain ⟨h1, h2, h3⟩ := h
  refine ⟨hk, h2, ?_⟩
  rcases h3 with h3 | ⟨b, rfl, h4, h5, h6⟩
  · exact .inl h3
  · exact .inr ⟨b, rfl, by omega, by rw [he b h4]; exact h5, h6⟩

def TInv0 (S : Mem) (M0 : Mem) (Q : List Nat) (x : Nat) (l : List UInt8) (N : Nat) (n : Nat) (t : Int) (M' : Mem) : Prop :=
  ∃ k W' g', t = Int.ofNat k ∧ k + n = N ∧ (∃ r : Rep M0 Q M' x W' g', r.Ok) ∧ Mod S M' [x] ∧ (∀ y ∈ W', y ∈ [x] ∨ S.length ≤ y) ∧ g'.l = l ∧ g'.ns = [] ∧ g'.defs = [] ∧ g'.bound = [] ∧ g'.names.length = k ∧ ∀ b ∈ g'.names, b ∈ namesG
def TInv1 (S : Mem) (M0 : Mem) (Q : List Nat) (x : Nat) (N : Nat) (n : Nat) (t : Int) (M' : Mem) : Prop :=
  ∃ k W' g', t = Int.ofNat k ∧ k + n = N ∧ (∃ r : Rep M0 Q M' x W' g', r.Ok) ∧ Mod S M' [x] ∧ (∀ y ∈ W', y ∈ [x] ∨ S.length ≤ y) ∧ GInv g' ∧ g'.names.length = N ∧ g'.bound = [] ∧ g'.defs.length = k ∧ Fits g'.ns 11 (fun _ kk => kk = 13) 0 0 g'.defs g'.ns.length ∧ g'.ns.length ≤ k * 59047

theorem leF_lt {a b : Nat} (h : (!leF (Int.ofNat a) (Int.ofNat b)) = true) : b < a := by
  have : leF (Int.ofNat a) (Int.ofNat b) = false := by simpa using h
  rw [leF_f] at this; exact Int.ofNat_lt.1 this
theorem leF_ge {a b : Nat} (h : (!leF (Int.ofNat a) (Int.ofNat b)) = false) : a ≤ b := by
  have : leF (Int.ofNat a) (Int.ofNat b) = true := by simpa using h
  rw [leF_t] at this; exact Int.ofNat_le.1 this
theorem sub_trans {S M : Mem} {x : Nat} {W W' : List Nat} (h : ∀ y ∈ W, y ∈ [x] ∨ S.length ≤ y) (hl : S.length ≤ M.length) (k : ∀ y ∈ W', y ∈ W ∨ M.length ≤ y) : ∀ y ∈ W', y ∈ [x] ∨ S.length ≤ y := by
  intro y hy
  rcases k y hy with a | a
  · exact h y a
  · right; omega

theorem names_step {S M0 : Mem} {Q : List Nat} {x : Nat} {l : List UInt8} {N k n : Nat} (hn : k + n = N) (hN : N ≤ 3) (hk : k < N) {nm : ByteArray} (hnm : nm ∈ namesG) {M' : Mem} {W' : List Nat} {g' : GS} {r : Rep M0 Q M' x W' g'} (hr : r.Ok) (hm : Mod S M' [x]) (hs : ∀ y ∈ W', y ∈ [x] ∨ S.length ≤ y)
    (h1 : g'.l = l) (h2 : g'.ns = []) (h3 : g'.defs = []) (h4 : g'.bound = []) (h5 : g'.names.length = k) (h6 : ∀ b ∈ g'.names, b ∈ namesG) :
    ∃ a4 n5 n6, rdVar Try.prog M' 53 x 4 = some (.slice a4 n5 n6) ∧ ∃ a7 n8 n9 M10, appendA Try.prog (M' ++ [AObj.cells [.string nm] 1 .live]) 53 53 (.slice a4 n5 n6) (.slice (some ⟨M'.length, 0, none⟩) 1 1) = some (.slice a7 n8 n9, M10) ∧
      ∃ M11, wrCells M10 x 4 [.slice a7 n8 n9] = some M11 ∧ ∃ m, m < n ∧ TInv0 S M0 Q x l N m (wrapF .i64 (Int.add (Int.ofNat k) (Int.ofNat 1))) M11 := by
  obtain ⟨a, n1, c, q1, a', n', c', M9, q2, M10, q3, W2, r2, hr2, hm2, hs2⟩ := names_add hr (by omega) nm
  refine ⟨a, n1, c, q1, a', n', c', M9, q2, M10, q3, n - 1, by omega, k + 1, W2, _, add64 (by omega), by omega, ⟨r2, hr2⟩, hm.trans hm2 hs, sub_trans hs hm.1 hs2, h1, h2, h3, h4, by simp [h5], ?_⟩
  intro b hb
  simp only [List.mem_append, List.mem_singleton] at hb
  rcases hb with hb | rfl
  · exact h6 b hb
  · exact hnm

theorem tree_ret {l : List UInt8} {a : Option Addr} {c : Nat} {M : Mem} (hl : Row M a (l.map fun b => .int .u8 (b.toNat : Nat))) (hb : ∀ y ∈ blk a, y < M.length) (hlen : l.length ≤ 1000) :
    ∃ v M' ns defs, Ret Try.prog 11 [.slice a l.length c] M v M' ∧ Drawn M M' v ns defs := by
  let M0 : Mem := M ++ [AObj.cells [.slice none 0 0, .slice none 0 0] 2 .live]
  let S : Mem := M0 ++ [AObj.cells [.slice a l.length c, .int .i64 (Int.ofNat 0), .slice none 0 0, .slice none 0 0, .slice none 0 0, .slice none 0 0] 6 .live]
  let x : Nat := M0.length
  let Q : List Nat := [M.length]
  let g0 : GS := ⟨l, 0, [], [], [], []⟩
  have hx : x = M.length + 1 := by simp [x, M0]
  have hS : S.length = M.length + 2 := by simp [S, M0]
  have hK0 : Keep M0 S := .app _ _
  have h0 : (⟨a, c, none, 0, none, 0, none, 0, none, 0, []⟩ : Rep M0 Q S x [x] g0).Ok := by
    refine ⟨Nat.le_refl _, get_last _ _, hl.app.app, fun y hy => ?_, ⟨hK0, rfl, .inl ⟨rfl, rfl, rfl⟩⟩, rfl, fun y hy => ?_, ⟨hK0, rfl, .inl ⟨rfl, rfl, rfl⟩⟩, ⟨hK0, rfl, .inl ⟨rfl, rfl, rfl⟩⟩, ⟨hK0, rfl, .inl ⟨rfl, rfl, rfl⟩⟩, .inl rfl, by simp [blk], by simp⟩
    · have := hb y hy
      show y < x
      omega
    · simp only [Q, List.mem_singleton] at hy
      subst hy
      exact ⟨by simp only [List.mem_singleton]; omega, by omega⟩
  have i0 : GInv g0 := ⟨by simp [g0], by simp [g0], by simp [g0], hlen, by simp [g0]⟩
  suffices hh : ∃ v M', Ret Try.prog 11 [.slice a l.length c] M v M' ∧ ∃ ns defs, Drawn M M' v ns defs by
    obtain ⟨v, M', q1, ns, defs, q2⟩ := hh
    exact ⟨v, M', ns, defs, q1, q2⟩
  refine Ret.wpH hP (K := fun v M' => ∃ ns defs, Drawn M M' v ns defs) (w11 (p0 := a) (p0n := l.length) (p0c := c) (M := M) ?_)
  obtain ⟨M1, k3, g1, h1, hk3, R1, i1, e1, b1⟩ := next_run h0 i0 (n := 3) (by decide) (by decide)
  obtain ⟨r1, hr1⟩ := R1.sim
  obtain ⟨M3, k16, g3, h3, hk16, R3, i3, e3, b3⟩ := next_run hr1 i1 (n := 16) (by decide) (by decide)
  refine ⟨_, _, h1, _, _, h3, ?_⟩
  rw [add64 (by omega)]
  have RR := R1.trans R3
  have start : TInv0 S M0 Q x l (1 + k3) (1 + k3) (Int.ofNat 0) M3 := ⟨0, [x], g3, rfl, by omega, RR.sim, RR.mod, fun y hy => .inl hy, RR.l, e3.trans e1, RR.df, b3.trans b1, by rw [RR.nm]; rfl, by rw [RR.nm]; simp [g0]⟩
  have tbl : ∀ (M' : Mem) (k : Nat), ∃ y o, idxA Try.prog 53 (.slice (some ⟨M'.length, 0, none⟩) 2 2) (.int .i64 (Int.ofNat (k % 2))) = some (.pointer (some ⟨y, o, none⟩)) ∧ ∃ s, s ∈ namesG ∧ rdVar Try.prog (M' ++ [AObj.cells [.string (tx [102, 49]), .string (tx [103, 49])] 1 .live]) 9 y o = some (.string s) := by
    intro M' k
    have hlt : k % 2 < [tx [102, 49], tx [103, 49]].length := Nat.mod_lt _ (by decide)
    obtain ⟨y, o, q1, q2⟩ := strs_at (l := [tx [102, 49], tx [103, 49]]) (Row.new M' (strs [tx [102, 49], tx [103, 49]]) []) hlt (c := 2) rfl
    refine ⟨y, o, q1, _, ?_, q2⟩
    have hm := List.getElem_mem hlt
    generalize ([tx [102, 49], tx [103, 49]])[k % 2] = s at *
    simp only [List.mem_cons, List.not_mem_nil, or_false] at hm
    rcases hm with rfl | rfl <;> simp [namesG, bindersG, tx]
  have fin : ∀ M7, (∃ M', M' = M7 ∧ ∃ n t, TInv1 S M0 Q x (1 + k3) n t M' ∧ n = 0) → ∃ a8 n9 n10 a11 n12 n13, rdVar Try.prog M7 32 x 2 = some (.agg ⟨[.slice a8 n9 n10, .slice a11 n12 n13]⟩) ∧ ∃ M14, wrCells M7 M.length 0 [.slice a8 n9 n10, .slice a11 n12 n13] = some M14 ∧
      ∃ a15 n16 n17 a18 n19 n20, rdVar Try.prog M14 32 M.length 0 = some (.agg ⟨[.slice a15 n16 n17, .slice a18 n19 n20]⟩) ∧ ∃ ns defs, Drawn M M14 (.agg ⟨[.slice a15 n16 n17, .slice a18 n19 n20]⟩) ns defs := by
    rintro M6 ⟨M7, rfl, n, t, ⟨k, W', g', _, hn, ⟨r, hr⟩, hm, hs, ig, _, _, hd, hf, hns⟩, rfl⟩
    have hSM : S[M.length]? = some (AObj.cells [.slice none 0 0, .slice none 0 0] 2 .live) := by
      show ((M ++ [AObj.cells [.slice none 0 0, .slice none 0 0] 2 .live]) ++ [_])[M.length]? = _
      rw [List.getElem?_append_left (by simp)]; exact get_last _ _
    have hMM : M7[M.length]? = some (AObj.cells [.slice none 0 0, .slice none 0 0] 2 .live) := by
      rw [hm.2 M.length (by omega) (by simp only [List.mem_singleton]; omega)]; exact hSM
    have hwr := wrCells_at hMM (o := 0) (new := [.slice r.na g'.ns.length r.nc, .slice r.da g'.defs.length r.dc]) (by simp) rfl
    have hMl := (List.getElem?_eq_some_iff.1 hMM).1
    have hKM : Keep M (M7.set M.length (AObj.cells (splice [.slice none 0 0, .slice none 0 0] 0 [.slice r.na g'.ns.length r.nc, .slice r.da g'.defs.length r.dc]) 2 .live)) := by
      have k1 : Keep M S := (Keep.app M _).trans (.app _ _)
      have k2 : Keep M M7 := k1.mod hm (fun y hy => by simp only [List.mem_singleton] at hy; omega)
      exact k2.set (Nat.le_refl _) _
    have hne : ∀ y, M0.length ≤ y → (M7.set M.length (AObj.cells (splice [.slice none 0 0, .slice none 0 0] 0 [.slice r.na g'.ns.length r.nc, .slice r.da g'.defs.length r.dc]) 2 .live))[y]? = M7[y]? := fun y hy => List.getElem?_set_ne (by have : x ≤ y := hy; omega)
    refine ⟨_, _, _, _, _, _, hr.at_.rdAt k32 s32 (by show 2 + 2 ≤ 6; decide), _, hwr, _, _, _, _, _, _, At.rdA (vs := [.slice r.na g'.ns.length r.nc, .slice r.da g'.defs.length r.dc]) ⟨2, .live, by decide, ?_⟩ k32 s32, g'.ns, g'.defs, ⟨⟨r.na, r.nc, r.da, r.dc, r.cs, W' ++ Q, rfl, ?_, ?_, ?_, ?_, ?_, ?_⟩, ig.ns, hf, by omega, by omega, by omega⟩⟩
    · rw [List.getElem?_set]; simp [hMl]; rfl
    · exact hr.n.low (by show M.length ≤ x; omega) hKM hne
    · exact hr.ns.mod (Mod.set M7 M.length _ (W := [M.length]) (by simp)) (fun y hy => List.mem_append_right _ hy) (fun y hy => .inl hy)
    · intro y hy; rw [hr.w]; simp [hy]
    · intro y hy; rw [hr.w]; simp [hy]
    · exact hr.d.low (by show M.length ≤ x; omega) hKM hne
    · intro y hy hy'
      have := hr.nd
      rw [hr.w, List.nodup_cons] at this
      exact (List.nodup_append.1 this.2).2.2 y hy y (List.mem_append_left _ hy') rfl
  refine cnd_of (fun _ => fun _ hT0 => lp_ex1 (loop11_0 (TInv0 S M0 Q x l (1 + k3)) (fun M5 => TInv1 S M0 Q x (1 + k3) (1 + k3) (Int.ofNat 0) M5) ?s1 (n := 1 + k3) start hT0) (fun M5 hE => fun _ hT1 => lp_ex1 (loop11_1 (TInv1 S M0 Q x (1 + k3)) (fun M7 => ∃ M', M' = M7 ∧ ∃ n t, TInv1 S M0 Q x (1 + k3) n t M' ∧ n = 0) ?s2 (n := 1 + k3) hE hT1) (fun M7 h7 => fin M7 h7)))
    (fun _ => fun _ hT0 => lp_ex1 (loop11_0 (TInv0 S M0 Q x l (1 + k3)) (fun M5 => TInv1 S M0 Q x (1 + k3) (1 + k3) (Int.ofNat 0) M5) ?s3 (n := 1 + k3) start hT0) (fun M5 hE => fun _ hT1 => lp_ex1 (loop11_1 (TInv1 S M0 Q x (1 + k3)) (fun M7 => ∃ M', M' = M7 ∧ ∃ n t, TInv1 S M0 Q x (1 + k3) n t M' ∧ n = 0) ?s4 (n := 1 + k3) hE hT1) (fun M7 h7 => fin M7 h7)))
  case s1 | s3 =>
    rintro n t M' ⟨k, W', g', rfl, hn, ⟨r, hr⟩, hm, hs, q1, q2, q3, q4, q5, q6⟩
    refine cnd_of (fun hlt => ?_) (fun hge => ?_)
    · have hlt := leF_lt hlt
      obtain ⟨y, o, t1, s, t2, t3⟩ := tbl M' k
      obtain ⟨r', hr'⟩ := hr.grow [AObj.cells [.string (tx [102, 49]), .string (tx [103, 49])] 1 .live]
      have hm' := hm.trans (Mod.app M' [AObj.cells [.string (tx [102, 49]), .string (tx [103, 49])] 1 .live] []) (by simp)
      refine ⟨_, remN (by decide) (by decide) _ _, _, _, t1, _, t3, cnd_of (fun _ => ?_) (fun _ => ?_)⟩
      · exact names_step hn (by omega) hlt (by simp [namesG, bindersG, tx]) hr' hm' hs q1 q2 q3 q4 q5 q6
      · exact names_step hn (by omega) hlt t2 hr' hm' hs q1 q2 q3 q4 q5 q6
    · have hge := leF_ge hge
      refine ⟨0, W', g', rfl, by omega, ⟨r, hr⟩, hm, hs, ⟨by rw [q2]; simp, by rw [q4]; simp, q6, by rw [q1]; exact hlen, by omega⟩, by omega, q4, by rw [q3]; rfl, by rw [q2, q3]; rfl, by rw [q2]; simp⟩
  case s2 | s4 =>
    rintro n t M' ⟨k, W', g', rfl, hn, ⟨r, hr⟩, hm, hs, ig, q1, q2, q3, q4, q5⟩
    refine cnd_of (fun hlt => ?_) (fun hge => ?_)
    · have hlt := leF_lt hlt
      obtain ⟨y, o, t1, t2⟩ := strs_at hr.f.row (k := k) (by omega) (c := r.fc) rfl
      have hmem : g'.names[k]'(by omega) ∈ namesG := ig.nm _ (List.getElem_mem _)
      have hX : XB (8 + 1) = 59047 := rfl
      obtain ⟨i, M7, t3, W7, g7, rfl, R7, m7⟩ := function_res (e := 8) (by decide) (expr_draws 8 (by decide)) (.inr ⟨rfl, hmem⟩) hr ig (by rw [hX]; omega) (by rw [q2]; decide)
      obtain ⟨r7, hr7⟩ := R7.sim
      have hd7 : g7.defs.length = k := by rw [R7.df]; exact q3
      obtain ⟨a1, n1, c1, u1, a', n', c', M9, u2, M10, u3, W2, r2, hr2, hm2, hs2⟩ := defs_add hr7 (by omega) (g7.ns.length - 1)
      have hm7 := hm.trans R7.mod hs
      have hs7 := sub_trans hs hm.1 R7.sub
      obtain ⟨m1, m2, new, e, m3, m4, m5, m6, m8⟩ := m7
      have hl7 : g7.ns.length = g'.ns.length + (new.length + 1) := by rw [m3]; simp
      refine ⟨_, _, _, hr.at_.rd k53 rfl, _, _, t1, _, t2, _, _, t3, a1, n1, c1, u1, a', n', c', M9, u2, M10, u3, n - 1, by omega, k + 1, W2, _, add64 (by omega), by omega, ⟨r2, hr2⟩, hm7.trans hm2 hs7, sub_trans hs7 hm7.1 hs2, ⟨m1.ns, m1.bd, m1.nm, m1.l, m1.nl⟩, ?_, ?_, ?_, ?_, ?_⟩
      · show g7.names.length = _
        rw [R7.nm]; exact q1
      · show g7.bound = []
        rw [m2]; exact q2
      · simp [hd7]
      · show Fits g7.ns 11 _ 0 0 (g7.defs ++ [g7.ns.length - 1]) g7.ns.length
        have he : g7.ns[g7.ns.length - 1]? = some e := by
          rw [hl7, m3, ← List.append_assoc, List.getElem?_append_right (by simp)]
          simp
        have hf : Fits g7.ns 11 (fun _ kk => kk = 13) 0 0 g7.defs g'.ns.length := by rw [R7.df, m3]; exact q4.app _
        have := hf.snoc he (by omega) (by omega) m4 m6
        rwa [show g7.ns.length - 1 + 1 = g7.ns.length by omega] at this
      · show g7.ns.length ≤ (k + 1) * 59047
        omega
    · have hge := leF_ge hge
      exact ⟨M', rfl, n, _, ⟨k, W', g', rfl, hn, ⟨r, hr⟩, hm, hs, ig, q1, q2, q3, q4, q5⟩, by omega⟩

end Go.Proofs.YtabkcbaknjenmaaAM

/-
  THE NODE LAWS: trees that may be read.
-/
set_option linter.unusedVariables false
set_option linter.unusedSimpArgs false
namespace Go.Proofs.YtabkcbaknjenmaaAM
open Go Go.Proofs
set_option maxRecDepth 100000
set_option maxHeartbeats 4000000

/-- A node, as it is. -/
structure Nd where
  kind : Int
  name : ByteArray
  arg : ByteArray
  kids : List Int
  pos : Int
def Nd.v (n : Nd) (ka : Option Addr) (kc : Nat) : List Value := nodeV n.kind n.name n.arg ka n.kids.length kc n.pos
theorem at_of {M : Mem} {x u : Nat} {vs : List Value} (h : M[x]? = some (.cells vs u .live)) : At M x vs := ⟨u, .live, by decide, h⟩
/-- Nodes that may be read. -/
def NdR (M : Mem) : List Nd → List Value → Prop
  | [], cs => cs = []
  | n :: l, cs => ∃ ka kc rest, cs = n.v ka kc ++ rest ∧ SliceR M 1 ka n.kids.length kc (ints n.kids) ∧ NdR M l rest
theorem NdR.keep {M M' : Mem} (k : Keep M M') : ∀ {l : List Nd} {cs : List Value}, NdR M l cs → NdR M' l cs
  | [], _, h => h
  | n :: l, cs, ⟨ka, kc, rest, h1, h2, h3⟩ => ⟨ka, kc, rest, h1, h2.keep k, h3.keep k⟩
theorem Nd.v_len (n : Nd) (ka : Option Addr) (kc : Nat) : (n.v ka kc).length = 5 := rfl
theorem NdR.get {M : Mem} : ∀ {l : List Nd} {cs : List Value}, NdR M l cs → ∀ (k : Nat) (h : k < l.length), ∃ ka kc, (cs.drop (k * 5)).take 5 = l[k].v ka kc ∧ SliceR M 1 ka l[k].kids.length kc (ints l[k].kids)
  | n :: l, cs, ⟨ka, kc, rest, h1, h2, h3⟩, 0, h => ⟨ka, kc, by subst h1; simp [Nd.v, nodeV], h2⟩
  | n :: l, cs, ⟨ka, kc, rest, h1, h2, h3⟩, k + 1, h => by
    obtain ⟨ka', kc', h4, h5⟩ := h3.get k (by simpa using h)
    refine ⟨ka', kc', ?_, by simpa using h5⟩
    subst h1
    rw [show (k + 1) * 5 = 5 + k * 5 by omega, ← List.drop_drop]
    simpa [Nd.v, nodeV] using h4
theorem NdR.len {M : Mem} : ∀ {l : List Nd} {cs : List Value}, NdR M l cs → cs.length = l.length * 5
  | [], cs, h => by have h : cs = [] := h; simp [h]
  | n :: l, cs, ⟨ka, kc, rest, h1, h2, h3⟩ => by subst h1; simp [Nd.v_len, h3.len]; omega

def TreeR (M : Mem) (v : Value) (nds : List Nd) (ds : List Int) : Prop :=
  ∃ na nc da dc cs, v = .agg ⟨[.slice na nds.length nc, .slice da ds.length dc]⟩ ∧ SliceR M 5 na nds.length nc cs ∧ NdR M nds cs ∧ SliceR M 1 da ds.length dc (ints ds)
theorem TreeR.keep {M M' : Mem} {v : Value} {nds : List Nd} {ds : List Int} (h : TreeR M v nds ds) (k : Keep M M') : TreeR M' v nds ds := by
  obtain ⟨na, nc, da, dc, cs, h1, h2, h3, h4⟩ := h
  exact ⟨na, nc, da, dc, cs, h1, h2.keep k, h3.keep k, h4.keep k⟩

/-- An element of a row of more cells. -/
theorem SliceR.elem {M : Mem} {sz n c k : Nat} {a : Option Addr} {l : List Value} (h : SliceR M sz a n c l) (hk : k < n) {ty e : TypeId} (he : elemT Try.prog ty = some e) (hs : sizeT Try.prog e = some sz) {kk : IntKind} {i : Int} (hi : i = Int.ofNat k) :
    ∃ y o, idxA Try.prog ty (.slice a n c) (.int kk i) = some (.pointer (some ⟨y, o, none⟩)) ∧ blk a = [y] ∧ (∀ j v, ((l.drop (k * sz)).take sz)[j]? = some v → cellAt M y (o + j) = some v) ∧
      ∀ ty2, (kindT Try.prog ty2).map aggK = some true → sizeT Try.prog ty2 = some sz → rdVar Try.prog M ty2 y o = some (.agg ⟨(l.drop (k * sz)).take sz⟩) := by
  obtain ⟨h1, h2⟩ := h
  rcases h2 with ⟨_, rfl, _⟩ | ⟨x, o, vs, u, m, rfl, h3, h4, h5, h6⟩
  · omega
  · have hm : k * sz + sz ≤ n * sz := by
      rw [← Nat.succ_mul]; exact Nat.mul_le_mul_right _ hk
    have hsub : (l.drop (k * sz)).take sz = (vs.drop (o + k * sz)).take sz := by
      subst h5
      rw [← List.drop_drop, List.drop_take, List.take_take, Nat.min_eq_left (by omega)]
    refine ⟨x, o + k * sz, idx_of he hs hi hk, rfl, fun j v hj => ?_, fun ty2 hk2 hs2 => ?_⟩
    · rw [hsub, List.getElem?_take] at hj
      split at hj
      · rw [List.getElem?_drop] at hj
        unfold cellAt
        rw [h3]; dsimp only
        rw [if_neg h4]; exact hj
      · simp at hj
    · have hA : At M x vs := ⟨u, m, h4, h3⟩
      rw [hA.rdAt hk2 hs2 (by omega), hsub]
theorem el30 : elemT Try.prog 30 = some 24 := by kernel_rfl
/-- A node of a tree. -/
theorem node_at {M : Mem} {na : Option Addr} {nc : Nat} {nds : List Nd} {cs : List Value} (h : SliceR M 5 na nds.length nc cs) (hR : NdR M nds cs) {k : Nat} (hk : k < nds.length) {i : Int} (hi : i = Int.ofNat k) :
    ∃ y o ka kc, idxA Try.prog 30 (.slice na nds.length nc) (.int .i64 i) = some (.pointer (some ⟨y, o, none⟩)) ∧ blk na = [y] ∧ (∀ j v, (nds[k].v ka kc)[j]? = some v → cellAt M y (o + j) = some v) ∧
      rdVar Try.prog M 24 y o = some (.agg ⟨nds[k].v ka kc⟩) ∧ SliceR M 1 ka nds[k].kids.length kc (ints nds[k].kids) := by
  obtain ⟨y, o, h1, h2, h3, h4⟩ := h.elem hk el30 s24 (kk := .i64) hi
  obtain ⟨ka, kc, h5, h6⟩ := hR.get k hk
  rw [h5] at h3 h4
  exact ⟨y, o, ka, kc, h1, h2, h3, h4 24 k24 s24, h6⟩

theorem ints_at {M : Mem} {a : Option Addr} {l : List Int} (h : Row M a (ints l)) {k : Nat} (hk : k < l.length) {c : Nat} {i : Int} (hi : i = Int.ofNat k) :
    ∃ y o, idxA Try.prog 22 (.slice a l.length c) (.int .i64 i) = some (.pointer (some ⟨y, o, none⟩)) ∧ rdVar Try.prog M 3 y o = some (.int .i64 l[k]) := by
  rcases h with h | ⟨x, o, rfl, h⟩
  · have : l.length = 0 := by simpa [ints] using congrArg List.length h
    omega
  · have q1 := idx_of (ty := 22) (e := 3) (size := 1) (by kernel_rfl) (by kernel_rfl) (x := x) (o := o) (n := l.length) (c := c) (kk := .i64) hi hk
    rw [Nat.mul_one] at q1
    refine ⟨x, o + k, q1, rd_of_cell k3 ?_⟩
    rw [h k (by simpa [ints] using hk)]
    simp [ints]
theorem neqB (b : Bool) (x y : Operand) : binA Try.prog .neq 4 x y (.bool b) (.bool b) = some (.bool false) := by cases b <;> kernel_rfl
theorem eqlB (b : Bool) (x y : Operand) : binA Try.prog .eql 4 x y (.bool b) (.bool b) = some (.bool true) := by cases b <;> kernel_rfl

end Go.Proofs.YtabkcbaknjenmaaAM

/-
  THE NODE LAWS: given slices, drawn trees as trees that may be read.
-/
set_option linter.unusedVariables false
set_option linter.unusedSimpArgs false
namespace Go.Proofs.YtabkcbaknjenmaaAM
open Go Go.Proofs
set_option maxRecDepth 100000
set_option maxHeartbeats 4000000

/-- Sizes. -/
def Sz (b : Nat) (nds : List Nd) (ds : List Int) : Prop := nds.length ≤ b ∧ ds.length ≤ b ∧ ∀ n ∈ nds, n.name.size ≤ 1000 ∧ n.arg.size ≤ 1000 ∧ n.kids.length ≤ b
theorem Sz.set {b b' : Nat} {nds : List Nd} {ds : List Int} (h : Sz b nds ds) (hb : b ≤ b') {k : Nat} {nd : Nd} (hn : nd.name.size ≤ 1000 ∧ nd.arg.size ≤ 1000 ∧ nd.kids.length ≤ b') : Sz b' (nds.set k nd) ds := by
  obtain ⟨h1, h2, h3⟩ := h
  refine ⟨by simp; omega, by omega, fun n hm => ?_⟩
  rcases List.mem_or_eq_of_mem_set hm with h | h
  · have := h3 n h; exact ⟨this.1, this.2.1, by omega⟩
  · subst h; exact hn
theorem Sz.mono {b b' : Nat} {nds : List Nd} {ds : List Int} (h : Sz b nds ds) (hb : b ≤ b') : Sz b' nds ds := by
  obtain ⟨h1, h2, h3⟩ := h
  exact ⟨by omega, by omega, fun n hm => ⟨(h3 n hm).1, (h3 n hm).2.1, by have := (h3 n hm).2.2; omega⟩⟩
/-- A slice that is given: it may be cut. -/
def Given (M : Mem) (sz : Nat) (a : Option Addr) (n c : Nat) (l : List Value) : Prop := SliceR M sz a n c l ∧ ((a = none ∧ n = 0 ∧ c = 0) ∨ (n ≤ c ∧ c < 9223372036854775808))
theorem Given.keep {M M' : Mem} {sz n c : Nat} {a : Option Addr} {l : List Value} (h : Given M sz a n c l) (k : Keep M M') : Given M' sz a n c l := ⟨h.1.keep k, h.2⟩
theorem Given.cut {M : Mem} {sz n c : Nat} {a : Option Addr} {l : List Value} (h : Given M sz a n c l) {ty e : TypeId} (he : elemT Try.prog ty = some e) (hs : sizeT Try.prog e = some sz) {m : Nat} (hm : m ≤ n) :
    ∃ c', sliceA Try.prog M ty (.slice a n c) none (some (.int .i64 (Int.ofNat m))) none = some (.slice a m c') ∧ Given M sz a m c' (l.take (m * sz)) := by
  obtain ⟨⟨h1, h2⟩, h3⟩ := h
  have e3 : bnd none 0 = some 0 := rfl
  have hcap : capU = 9223372036854775808 := rfl
  rcases h2 with ⟨rfl, rfl, rfl⟩ | ⟨x, o, vs, u, md, rfl, g1, g2, g3, g4⟩
  · have hm0 : m = 0 := by omega
    subst hm0
    refine ⟨0, ?_, ⟨by simp, .inl ⟨rfl, rfl, rfl⟩⟩, .inl ⟨rfl, rfl, rfl⟩⟩
    simp [sliceA, he, hs, bnd]
  · have hc : n ≤ c ∧ c < 9223372036854775808 := by
      rcases h3 with ⟨h3, _⟩ | h3
      · simp at h3
      · exact h3
    have hmul : m * sz ≤ n * sz := Nat.mul_le_mul_right _ hm
    refine ⟨c, ?_, ⟨by rw [List.length_take]; omega, .inr ⟨x, o, vs, u, md, rfl, g1, g2, ?_, by omega⟩⟩, .inr ⟨by omega, hc.2⟩⟩
    · simp only [sliceA, he, hs, Option.bind_some, e3, bnd_nat]
      have e4 : bnd none c = some c := rfl
      rw [if_neg (by omega), e4, Option.bind_some, if_pos ⟨Nat.zero_le _, by omega, Nat.le_refl _, by omega⟩]
      simp
    · rw [← g3, List.take_take, Nat.min_eq_left hmul]
theorem minI (a b : Nat) : (if Int.ofNat a < Int.ofNat b then Int.ofNat a else Int.ofNat b) = Int.ofNat (min b a) := by
  split
  · rename_i h
    have : a < b := Int.ofNat_lt.1 h
    rw [Nat.min_eq_right (by omega)]
  · rename_i h
    have : ¬ a < b := fun hh => h (Int.ofNat_lt.2 hh)
    rw [Nat.min_eq_left (by omega)]
def ndOf : Nat → List GN → List Nd
  | _, [] => []
  | i, g :: l => ⟨Int.ofNat g.kind, g.name, g.arg, g.kids.map Int.ofNat, Int.ofNat i⟩ :: ndOf (i + 1) l
theorem ndOf_len : ∀ (l : List GN) (i : Nat), (ndOf i l).length = l.length
  | [], _ => rfl
  | g :: l, i => by simp [ndOf, ndOf_len l]
theorem ndOf_get : ∀ (l : List GN) (i k : Nat) (h : k < l.length), (ndOf i l)[k]? = some ⟨Int.ofNat l[k].kind, l[k].name, l[k].arg, l[k].kids.map Int.ofNat, Int.ofNat (i + k)⟩
  | g :: l, i, 0, h => rfl
  | g :: l, i, k + 1, h => by
    have := ndOf_get l (i + 1) k (by simpa using h)
    simp only [ndOf, List.getElem?_cons_succ, List.getElem_cons_succ, this]
    rw [show i + 1 + k = i + (k + 1) by omega]
theorem NodesRep.ndR {M : Mem} {V : List Nat} : ∀ {l : List GN} {i : Nat} {cs : List Value}, NodesRep M V i l cs → NdR M (ndOf i l) cs
  | [], _, _, h => h
  | g :: l, i, cs, ⟨ka, kc, rest, h1, h2, h3, h4⟩ => ⟨ka, kc, rest, by simp only [Nd.v, List.length_map]; exact h1, by simp only [List.length_map]; exact h2, h4.ndR⟩
theorem Drawn.tree {M M' : Mem} {v : Value} {ns : List GN} {defs : List Nat} (h : Drawn M M' v ns defs) : Keep M M' ∧ TreeR M' v (ndOf 0 ns) (defs.map Int.ofNat) ∧ Sz 200000 (ndOf 0 ns) (defs.map Int.ofNat) := by
  obtain ⟨na, nc, da, dc, cs, V, rfl, h1, h2, h3, h4, h5, h6⟩ := h.ex
  refine ⟨h1.1, ⟨na, nc, da, dc, cs, by simp [ndOf_len], by rw [ndOf_len]; exact h1.slice, h2.ndR, by simpa using h5.slice⟩, by rw [ndOf_len]; exact h.len.2.2, by simp; have := h.len.2.1; omega, fun n hn => ?_⟩
  obtain ⟨k, hk, rfl⟩ := List.getElem_of_mem hn
  rw [ndOf_len] at hk
  have := ndOf_get ns 0 k hk
  rw [List.getElem?_eq_getElem (by rw [ndOf_len]; exact hk)] at this
  injection this with this
  rw [this]
  obtain ⟨a, b, c⟩ := (h.ok k ns[k] (List.getElem?_eq_getElem hk)).short
  exact ⟨by show ns[k].name.size ≤ 1000; omega, by show ns[k].arg.size ≤ 1000; omega, by simp; omega⟩
theorem KidsRes.both {M : Mem} {v : Value} {r : Option (List Int)} (h : KidsRes M v r) : ∃ a c, v = .tuple ⟨[.slice a (r.getD []).length c, .bool r.isSome]⟩ ∧ Row M a (ints (r.getD [])) := by
  cases r with
  | none => exact ⟨none, 0, h, .inl rfl⟩
  | some l => exact h
theorem eqF_self (i : Int) : eqF i i = true := eqF_t.2 rfl
theorem eqS_self (s : ByteArray) : eqS s s = true := eqS_t.2 rfl
theorem lp_or {L : Mem → Prop} {L' : Bool → Mem → Prop} {R S : Mem → Prop} {X : Prop} (h : (∃ M', L M' ∧ R M') ∨ (∃ b M', L' b M' ∧ False)) (k : ∀ M', R M' → S M') : (∃ M', L M' ∧ ((Nat → Value) → S M')) ∨ X := by
  rcases h with ⟨M', h1, h2⟩ | ⟨_, _, _, h⟩
  · exact .inl ⟨M', h1, fun _ => k _ h2⟩
  · exact h.elim
theorem short_of {s : ByteArray} {n : Nat} (h : s.size ≤ n) (hn : n ≤ 1000000) : Short s := by unfold Short; omega
theorem rdVar_keep {M M' : Mem} {ty : TypeId} {x o : Nat} {v : Value} (h : rdVar Try.prog M ty x o = some v) (k : Keep M M') : rdVar Try.prog M' ty x o = some v := by
  by_cases hx : x < M.length
  · have e : ∀ n, rdCells M' x o n = rdCells M x o n := fun n => by unfold rdCells; rw [k.same hx]
    unfold rdVar at h ⊢
    simpa only [e] using h
  · have e : ∀ n, rdCells M x o n = none := fun n => by unfold rdCells; rw [List.getElem?_eq_none (by omega)]
    unfold rdVar at h
    simp only [e] at h
    cases hk : kindT Try.prog ty with
    | none => rw [hk] at h; simp at h
    | some kk =>
      rw [hk] at h
      simp only [Option.bind_some] at h
      split at h
      · cases hs : sizeT Try.prog ty with
        | none => rw [hs] at h; simp at h
        | some n => rw [hs] at h; simp at h
      · simp at h
/-- All nodes are asked; the kinds; the sorts. -/
def LInv (M0 : Mem) (N : Nat) (lo : Int) (n : Nat) (t : Int) (M' : Mem) : Prop := ∃ k : Nat, t = lo + (k : Int) ∧ k + n = N ∧ Keep M0 M'
theorem LInv.start (M0 : Mem) (N : Nat) (lo : Int) : LInv M0 N lo N lo M0 := ⟨0, by omega, by omega, .refl _⟩
theorem LInv.next {M0 : Mem} {N : Nat} {lo : Int} {n : Nat} {t : Int} {M' M2 : Mem} (h : LInv M0 N lo n t M') (hn : 0 < n) (hK : Keep M' M2) (hN : N ≤ 1000000) (hlo : -1000 ≤ lo ∧ lo ≤ 1000) : ∃ m, m < n ∧ LInv M0 N lo m (wrapF .i64 (Int.add t (Int.ofNat 1))) M2 := by
  obtain ⟨k, rfl, h2, h3⟩ := h
  refine ⟨n - 1, by omega, k + 1, ?_, by omega, h3.trans hK⟩
  have e : Int.add (lo + (k : Int)) (Int.ofNat 1) = lo + ((k + 1 : Nat) : Int) := by show lo + (k : Int) + 1 = _; omega
  rw [e]
  exact wrap64 (by omega) (by omega)
theorem kidsS_len (i : Int) (nm ar : ByteArray) (n : Nat) : ((kidsS i nm ar n).getD []).length ≤ n := by
  unfold kidsS
  cases h : (leF (Int.ofNat 0) i && (leF i (Int.ofNat 35) && (namedS i nm ar && ((sortsS i nm n).2 && Nat.beq (sortsS i nm n).1.length n)))) with
  | false => simp
  | true =>
    simp only [Bool.and_eq_true] at h
    have := Nat.eq_of_beq_eq_true h.2.2.2.2
    simp [this]

end Go.Proofs.YtabkcbaknjenmaaAM
