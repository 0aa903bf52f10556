/-
  Part KB7 of the proof: merged texts.
-/
import Derived.Test.YtabkcbaknjenmaaKA3
import Derived.Test.YtabkcbaknjenmaaRows
import Derived.Test.YtabkcbaknjenmaaKB6
import Derived.Test.YtabkcbaknjenmaaKB4
import Derived.Test.YtabkcbaknjenmaaKB3
import Derived.WalkKit
import Derived.ProofKit
import Derived.OpenShut
import Derived.ChangeStays
import Derived.ChangeBears
import Derived.ReadAgain

/-
  THE NODE LAWS: what is to be shown for functions, printed by a program: NodeTells
-/
set_option linter.unusedVariables false
namespace Go.Proofs.YtabkcbaknjenmaaAM
open Go Go.Proofs
set_option maxRecDepth 100000
set_option maxHeartbeats 4000000
def ann3 : Ann := [([1, 1, 1, 1, 1, 1, 0, 1, 0, 0, 1, 0, 0, 0, 1, 0], [3, 5, 15, 16], [(some 6, []), (none, [(6, some 4)])]), ([1, 1, 1, 1, 1, 1, 0, 1, 0], [3, 5, 15], [(some 4, []), (none, [(6, some 4)])]), ([1, 1, 1, 1, 1, 0, 1, 0, 0, 1, 0, 0, 1, 1, 1, 1, 0], [3, 5, 7, 9, 10, 12, 14], [(some 2, []), (none, [(6, some 4)])]), ([1, 1, 1, 1, 1, 0, 1, 0], [3, 5, 7, 9], [(some 0, []), (none, [(6, some 4)])])]
theorem w3 {p00 : Int} {p01 p02 : ByteArray} {p03 : Option Addr} {p03n p03c : Nat} {p04 : Int} {p1 : Option Addr} {p1n p1c : Nat} {p20 p21 p22 : Int} {p23 : ByteArray} {M : Mem} {K : Value → Mem → Prop} (h : ∃ (s0 : ByteArray),
 rdVar Try.prog
 (M ++ [AObj.cells [.int .i64 p00, .string p01, .string p02, .slice p03 p03n p03c, .int .i64 p04] 5 Mode.live] ++
 [AObj.cells [.int .u8 p20, .int .u8 p21, .int .i16 p22, .string p23] 4 Mode.live])
 9 (List.length (M ++ [AObj.cells [.int .i64 p00, .string p01, .string p02, .slice p03 p03n p03c, .int .i64 p04] 5 Mode.live])) 3 =
 some (Value.string s0) ∧
 ∃ (s1 : ByteArray),
 rdVar Try.prog
 (M ++ [AObj.cells [.int .i64 p00, .string p01, .string p02, .slice p03 p03n p03c, .int .i64 p04] 5 Mode.live] ++
 [AObj.cells [.int .u8 p20, .int .u8 p21, .int .i16 p22, .string p23] 4 Mode.live])
 9 (List.length (M ++ [AObj.cells [.int .i64 p00, .string p01, .string p02, .slice p03 p03n p03c, .int .i64 p04] 5 Mode.live])) 3 =
 some (Value.string s1) ∧
 ∃ (s2 : ByteArray),
 sliceA Try.prog
 (M ++ [AObj.cells [.int .i64 p00, .string p01, .string p02, .slice p03 p03n p03c, .int .i64 p04] 5 Mode.live] ++
 [AObj.cells [.int .u8 p20, .int .u8 p21, .int .i16 p22, .string p23] 4 Mode.live])
 9 (.string s0) none (some (Value.int .i64 (if Int.ofNat 40 < Int.ofNat (ByteArray.size s1) then Int.ofNat 40 else Int.ofNat (ByteArray.size s1)))) none =
 some (Value.string s2) ∧
 ∃ (M3 : Mem),
 wrCells
 (M ++ [AObj.cells [.int .i64 p00, .string p01, .string p02, .slice p03 p03n p03c, .int .i64 p04] 5 Mode.live] ++
 [AObj.cells [.int .u8 p20, .int .u8 p21, .int .i16 p22, .string p23] 4 Mode.live])
 (List.length (M ++ [AObj.cells [.int .i64 p00, .string p01, .string p02, .slice p03 p03n p03c, .int .i64 p04] 5 Mode.live])) 3
 [.string s2] =
 some M3 ∧
 ∃ (i4 : Int),
 ∃ (s5 : ByteArray),
 ∃ (s6 : ByteArray),
 ∃ (a7 : Option Addr),
 ∃ (n8 : Nat),
 ∃ (n9 : Nat),
 ∃ (i10 : Int),
 rdVar Try.prog M3 24 (List.length M) 0 =
 some (Value.agg (Array.mk [.int .i64 i4, .string s5, .string s6, .slice a7 n8 n9, .int .i64 i10])) ∧
 ∃ (i11 : Int),
 ∃ (s12 : ByteArray),
 ∃ (s13 : ByteArray),
 ∃ (a14 : Option Addr),
 ∃ (n15 : Nat),
 ∃ (n16 : Nat),
 ∃ (i17 : Int),
 ∃ (M18 : Mem),
 Ret Try.prog 9
 [.agg (Array.mk [.int .i64 i4, .string s5, .string s6, .slice a7 n8 n9, .int .i64 i10])] M3
 (.agg (Array.mk [.int .i64 i11, .string s12, .string s13, .slice a14 n15 n16, .int .i64 i17]))
 M18 ∧
 ∃ (i19 : Int),
 ∃ (i20 : Int),
 ∃ (i21 : Int),
 ∃ (s22 : ByteArray),
 rdVar Try.prog
 (M18 ++
 [AObj.cells
 [.int .i64 i11, .string s12, .string s13, .slice a14 n15 n16, .int .i64 i17] 5
 Mode.live])
 28
 (List.length
 (M ++
 [AObj.cells
 [.int .i64 p00, .string p01, .string p02, .slice p03 p03n p03c, .int .i64 p04]
 5 Mode.live]))
 0 =
 some (Value.agg (Array.mk [.int .u8 i19, .int .u8 i20, .int .i16 i21, .string s22])) ∧
 ∃ (a23 : Option Addr),
 ∃ (n24 : Nat),
 ∃ (n25 : Nat),
 sliceA Try.prog
 (M18 ++
 [AObj.cells
 [.int .i64 i11, .string s12, .string s13, .slice a14 n15 n16,
 .int .i64 i17]
 5 Mode.live])
 25 (.slice p1 p1n p1c) none
 (some (Value.int .i64 (if Int.ofNat 300 < Int.ofNat p1n then Int.ofNat 300 else Int.ofNat p1n))) none =
 some (Value.slice a23 n24 n25) ∧
 ∃ (a26 : Option Addr),
 ∃ (n27 : Nat),
 ∃ (n28 : Nat),
 ∃ (a29 : Option Addr),
 ∃ (n30 : Nat),
 ∃ (n31 : Nat),
 ∃ (M32 : Mem),
 Ret Try.prog 11 [.slice a23 n24 n25]
 (M18 ++
 [AObj.cells
 [.int .i64 i11, .string s12, .string s13, .slice a14 n15 n16,
 .int .i64 i17]
 5 Mode.live])
 (.agg (Array.mk [.slice a26 n27 n28, .slice a29 n30 n31])) M32 ∧
 ∃ (a33 : Option Addr),
 ∃ (n34 : Nat),
 ∃ (n35 : Nat),
 ∃ (a36 : Option Addr),
 ∃ (n37 : Nat),
 ∃ (n38 : Nat),
 ∃ (M39 : Mem),
 Ret Try.prog 10
 [.agg
 (Array.mk
 [.int .u8 i19, .int .u8 i20, .int .i16 i21,
 .string s22]),
 .agg (Array.mk [.slice a26 n27 n28, .slice a29 n30 n31])]
 M32 (.agg (Array.mk [.slice a33 n34 n35, .slice a36 n37 n38])) M39 ∧
 ∃ (M40 : Mem),
 wrCells (M39 ++ [AObj.cells [.slice none 0 0, .slice none 0 0] 2 Mode.live])
 (List.length M39) 0 [.slice a33 n34 n35, .slice a36 n37 n38] =
 some M40 ∧
 (((List.length
 (M ++
 [AObj.cells
 [.int .i64 p00, .string p01, .string p02,
 .slice p03 p03n p03c, .int .i64 p04]
 5 Mode.live]) <
 List.length
 (M18 ++
 [AObj.cells
 [.int .i64 i11, .string s12, .string s13,
 .slice a14 n15 n16, .int .i64 i17]
 5 Mode.live]) →
 M32[List.length
 (M ++
 [AObj.cells
 [.int .i64 p00, .string p01, .string p02,
 .slice p03 p03n p03c, .int .i64 p04]
 5 Mode.live])]? =
 (M18 ++
 [AObj.cells
 [.int .i64 i11, .string s12, .string s13,
 .slice a14 n15 n16, .int .i64 i17]
 5
 Mode.live])[List.length
 (M ++
 [AObj.cells
 [.int .i64 p00, .string p01, .string p02,
 .slice p03 p03n p03c, .int .i64 p04]
 5 Mode.live])]?) ∧
 True) ∧
 True) ∧
 ∃ (a45 : Option Addr),
 ∃ (n46 : Nat),
 ∃ (n47 : Nat),
 rdVar Try.prog M40 30 (List.length M39) 0 = some (.slice a45 n46 n47) ∧
 ∃ (a48 : Option Addr),
 ∃ (n49 : Nat),
 ∃ (n50 : Nat),
 ∃ (M51 : Mem),
 appendA Try.prog M40 30 30
 (.slice (some (.mk (List.length M18) 0 none)) 1 1)
 (.slice a45 n46 n47) =
 some (Value.slice a48 n49 n50, M51) ∧
 ∀ (t52 : List Value),
 TIn 175
 [(3, .pointer (some (.mk (List.length M) 0 none))),
 (5,
 .pointer
 (some
 (.mk
 (List.length
 (M ++
 [AObj.cells
 [.int .i64 p00,
 .string p01, .string p02,
 .slice p03 p03n p03c,
 .int .i64 p04]
 5 Mode.live]))
 0 none))),
 (7, .slice a48 n49 n50),
 (9, .int .i64 (Int.ofNat 0))]
 t52 →
 (∃ (M53 : Mem),
 LpT Try.prog (Env.fn 3) [1, 1, 1, 1, 1, 0, 1, 0] t52 []
 M51 false (.exit 0) [] M53 ∧
 ∀ (w54 : Nat → Value) (t55 : List Value),
 TIn 175
 [(3,
 .pointer
 (some (.mk (List.length M) 0 none))),
 (5,
 .pointer
 (some
 (.mk
 (List.length
 (M ++
 [AObj.cells
 [.int .i64 p00,
 .string p01,
 .string p02,
 .slice p03 p03n p03c,
 .int .i64 p04]
 5 Mode.live]))
 0 none))),
 (15, .int .i64 (Int.negSucc 0))]
 t55 →
 (∃ (M56 : Mem),
 LpT Try.prog (Env.fn 3)
 [1, 1, 1, 1, 1, 1, 0, 1, 0] t55 [] M53 false
 (.exit 4) [] M56 ∧
 ∀ (w57 : Nat → Value),
 ∃ (s58 : ByteArray),
 rdVar Try.prog M56 9
 (List.length
 (M ++
 [AObj.cells
 [.int .i64 p00,
 .string p01,
 .string p02,
 .slice p03 p03n p03c,
 .int .i64 p04]
 5 Mode.live]))
 3 =
 some (Value.string s58) ∧
 ∃ (b59 : Bool),
 ∃ (M60 : Mem),
 Ret Try.prog 16 [.string s58]
 M56 (.bool b59) M60 ∧
 ∃ (s61 : ByteArray),
 rdVar Try.prog M60 9
 (List.length
 (M ++
 [AObj.cells
 [.int
 .i64
 p00,
 .string
 p01,
 .string
 p02,
 .slice p03
 p03n p03c,
 .int
 .i64
 p04]
 5 Mode.live]))
 3 =
 some (Value.string s61) ∧
 ∃ (b62 : Bool),
 ∃ (M63 : Mem),
 Ret Try.prog 17
 [.string s61] M60
 (.bool b62) M63 ∧
 ∃ (b64 : Bool),
 binA Try.prog
 BinOp.eql 4
 (Operand.tmp
 154)
 (Operand.tmp
 157)
 (.bool b59)
 (.bool
 b62) =
 some
 (.bool
 b64) ∧
 cnd b64
 (∃ (i65 : Int),
 rdVar Try.prog
 M63 3
 (List.length
 M)
 0 =
 some
 (.int
 .i64
 i65) ∧
 ∃ (i66 : Int),
 rdVar
 Try.prog
 M63 3
 (List.length
 M)
 4 =
 some
 (.int
 .i64
 i66) ∧
 ∃ (b67 :
 Bool),
 ∃ (M68 :
 Mem),
 Ret
 Try.prog
 18
 [.int
 .i64
 i65,
 .int
 .i64
 i66]
 M63
 (.bool
 b67)
 M68 ∧
 ∃
 (i69
 :
 Int),
 rdVar
 Try.prog
 M68
 3
 (List.length
 M)
 0 =
 some
 (.int
 .i64
 i69) ∧
 ∃
 (i70
 :
 Int),
 rdVar
 Try.prog
 M68
 3
 (List.length
 M)
 4 =
 some
 (.int
 .i64
 i70) ∧
 ∃
 (b71
 :
 Bool),
 ∃
 (M72
 :
 Mem),
 Ret
 Try.prog
 19
 [.int
 .i64
 i69,
 .int
 .i64
 i70]
 M68
 (.bool
 b71)
 M72 ∧
 ∃
 (b73
 :
 Bool),
 binA
 Try.prog
 BinOp.eql
 4
 (Operand.tmp
 164)
 (Operand.tmp
 169)
 (.bool
 b67)
 (.bool
 b71) =
 some
 (.bool
 b73) ∧
 cnd
 b73
 (∃
 (b74
 :
 Bool),
 ∃
 (M75
 :
 Mem),
 Ret
 Try.prog
 20
 []
 M72
 (.bool
 b74)
 M75 ∧
 (((List.length
 (M ++
 [AObj.cells
 [.int
 .i64
 p00,
 .string
 p01,
 .string
 p02,
 .slice
 p03
 p03n
 p03c,
 .int
 .i64
 p04]
 5
 Mode.live]) <
 List.length
 M56 →
 M60[List.length
 (M ++
 [AObj.cells
 [.int
 .i64
 p00,
 .string
 p01,
 .string
 p02,
 .slice
 p03
 p03n
 p03c,
 .int
 .i64
 p04]
 5
 Mode.live])]? =
 M56[List.length
 (M ++
 [AObj.cells
 [.int
 .i64
 p00,
 .string
 p01,
 .string
 p02,
 .slice
 p03
 p03n
 p03c,
 .int
 .i64
 p04]
 5
 Mode.live])]?) ∧
 True) ∧
 ((List.length
 M <
 List.length
 M63 →
 M68[List.length
 M]? =
 M63[List.length
 M]?) ∧
 True) ∧
 ((List.length
 M <
 List.length
 M63 →
 M68[List.length
 M]? =
 M63[List.length
 M]?) ∧
 True) ∧
 True) ∧
 K
 (.bool
 b74)
 M75)
 ((((List.length
 (M ++
 [AObj.cells
 [.int
 .i64
 p00,
 .string
 p01,
 .string
 p02,
 .slice
 p03
 p03n
 p03c,
 .int
 .i64
 p04]
 5
 Mode.live]) <
 List.length
 M56 →
 M60[List.length
 (M ++
 [AObj.cells
 [.int
 .i64
 p00,
 .string
 p01,
 .string
 p02,
 .slice
 p03
 p03n
 p03c,
 .int
 .i64
 p04]
 5
 Mode.live])]? =
 M56[List.length
 (M ++
 [AObj.cells
 [.int
 .i64
 p00,
 .string
 p01,
 .string
 p02,
 .slice
 p03
 p03n
 p03c,
 .int
 .i64
 p04]
 5
 Mode.live])]?) ∧
 True) ∧
 ((List.length
 M <
 List.length
 M63 →
 M68[List.length
 M]? =
 M63[List.length
 M]?) ∧
 True) ∧
 ((List.length
 M <
 List.length
 M63 →
 M68[List.length
 M]? =
 M63[List.length
 M]?) ∧
 True) ∧
 True) ∧
 K
 (.bool
 false)
 M72))
 ((((List.length
 (M ++
 [AObj.cells
 [.int
 .i64
 p00,
 .string
 p01,
 .string
 p02,
 .slice
 p03
 p03n
 p03c,
 .int
 .i64
 p04]
 5
 Mode.live]) <
 List.length
 M56 →
 M60[List.length
 (M ++
 [AObj.cells
 [.int
 .i64
 p00,
 .string
 p01,
 .string
 p02,
 .slice
 p03
 p03n
 p03c,
 .int
 .i64
 p04]
 5
 Mode.live])]? =
 M56[List.length
 (M ++
 [AObj.cells
 [.int
 .i64
 p00,
 .string
 p01,
 .string
 p02,
 .slice
 p03
 p03n
 p03c,
 .int
 .i64
 p04]
 5
 Mode.live])]?) ∧
 True) ∧
 True ∧
 True ∧
 True) ∧
 K
 (.bool
 false)
 M63)) ∨
 ∃ (b104 : Bool),
 ∃ (M105 : Mem),
 LpT Try.prog (Env.fn 3)
 [1, 1, 1, 1, 1, 1, 0, 1, 0] t55 [] M53
 false .ret [(6, .bool b104)]
 M105 ∧
 ∀ (w106 : Nat → Value),
 K (.bool b104) M105) ∨
 ∃ (b107 : Bool),
 ∃ (M108 : Mem),
 LpT Try.prog (Env.fn 3) [1, 1, 1, 1, 1, 0, 1, 0] t52 []
 M51 false .ret [(6, .bool b107)] M108 ∧
 ∀ (w109 : Nat → Value), K (.bool b107) M108) :
 Held (wpRet Try.prog 3 true ann3
 [.agg (Array.mk [.int .i64 p00, .string p01, .string p02, .slice p03 p03n p03c, .int .i64 p04]), .slice p1 p1n p1c,
 .agg (Array.mk [.int .u8 p20, .int .u8 p21, .int .i16 p22, .string p23])]
 M K) := held_of (by kernel_rfl) h
theorem loop3_0 {ut3 ut3o ut5 ut5o : Nat} {ut7 : Option Addr} {ut7n ut7c : Nat} {d : List ADef} {rc : Bool} (Inv : Nat → Int → Mem → Prop) (R0 : Mem → Prop) (R1 : Bool → Mem → Prop)
 (step : ∀ (n : Nat) (t9 : Int) (M : Mem), Inv n t9 M →
 cnd (!leF (Int.ofNat ut7n) t9)
 (∃ (n0 : Nat),
 ∃ (n1 : Nat),
 idxA Try.prog 30 (.slice ut7 ut7n ut7c) (.int .i64 t9) = some (.pointer (some (.mk n0 n1 none))) ∧
 ∃ (i2 : Int),
 ∃ (s3 : ByteArray),
 ∃ (s4 : ByteArray),
 ∃ (a5 : Option Addr),
 ∃ (n6 : Nat),
 ∃ (n7 : Nat),
 ∃ (i8 : Int),
 rdVar Try.prog M 24 n0 n1 = some (.agg (Array.mk [.int .i64 i2, .string s3, .string s4, .slice a5 n6 n7, .int .i64 i8])) ∧
 ∃ (a9 : Option Addr),
 ∃ (n10 : Nat),
 ∃ (n11 : Nat),
 ∃ (b12 : Bool),
 ∃ (M13 : Mem),
 Ret Try.prog 12 [.agg (Array.mk [.int .i64 i2, .string s3, .string s4, .slice a5 n6 n7, .int .i64 i8])] M
 (.tuple (Array.mk [.slice a9 n10 n11, .bool b12])) M13 ∧
 ∃ (n14 : Nat),
 ∃ (n15 : Nat),
 idxA Try.prog 30 (.slice ut7 ut7n ut7c) (.int .i64 t9) = some (.pointer (some (.mk n14 n15 none))) ∧
 ∃ (i16 : Int),
 ∃ (s17 : ByteArray),
 ∃ (s18 : ByteArray),
 ∃ (a19 : Option Addr),
 ∃ (n20 : Nat),
 ∃ (n21 : Nat),
 ∃ (i22 : Int),
 rdVar Try.prog M13 24 n14 n15 =
 some
 (.agg
 (Array.mk
 [.int .i64 i16, .string s17, .string s18, .slice a19 n20 n21, .int .i64 i22])) ∧
 ∃ (a23 : Option Addr),
 ∃ (n24 : Nat),
 ∃ (n25 : Nat),
 ∃ (b26 : Bool),
 ∃ (M27 : Mem),
 Ret Try.prog 13
 [.agg
 (Array.mk
 [.int .i64 i16, .string s17, .string s18, .slice a19 n20 n21,
 .int .i64 i22])]
 M13 (.tuple (Array.mk [.slice a23 n24 n25, .bool b26])) M27 ∧
 ∃ (b28 : Bool),
 binA Try.prog BinOp.neq 4 (Operand.tmp 62) (Operand.tmp 63) (.bool b12) (.bool b26) =
 some (Value.bool b28) ∧
 cnd b28 ((True ∧ True ∧ True ∧ True) ∧ R1 false M27)
 (cnd (!eqF (Int.ofNat n10) (Int.ofNat n24)) ((True ∧ True ∧ True ∧ True) ∧ R1 false M27)
 (∃ (n29 : Nat),
 ∃ (n30 : Nat),
 idxA Try.prog 30 (.slice ut7 ut7n ut7c) (.int .i64 t9) =
 some (.pointer (some (.mk n29 n30 none))) ∧
 ∃ (i31 : Int),
 rdVar Try.prog M27 3 n29 n30 = some (.int .i64 i31) ∧
 ∃ (s32 : ByteArray),
 ∃ (M33 : Mem),
 Ret Try.prog 14 [.int .i64 i31] M27 (.string s32) M33 ∧
 ∃ (n34 : Nat),
 ∃ (n35 : Nat),
 idxA Try.prog 30 (.slice ut7 ut7n ut7c) (.int .i64 t9) =
 some (.pointer (some (.mk n34 n35 none))) ∧
 ∃ (i36 : Int),
 rdVar Try.prog M33 3 n34 n35 = some (.int .i64 i36) ∧
 ∃ (s37 : ByteArray),
 ∃ (M38 : Mem),
 Ret Try.prog 15 [.int .i64 i36] M33 (.string s37) M38 ∧
 cnd (!eqS s32 s37)
 ((((n34 < List.length M27 → M33[n34]? = M27[n34]?) ∧ True) ∧
 True ∧ True ∧ True) ∧
 R1 false M38)
 (∃ (n43 : Nat),
 ∃ (n44 : Nat),
 idxA Try.prog 30 (.slice ut7 ut7n ut7c) (.int .i64 t9) =
 some (.pointer (some (.mk n43 n44 none))) ∧
 ∃ (s45 : ByteArray),
 rdVar Try.prog M38 9 n43 (Nat.succ n44) = some (.string s45) ∧
 ∃ (b46 : Bool),
 ∃ (M47 : Mem),
 Ret Try.prog 16 [.string s45] M38 (.bool b46) M47 ∧
 ∃ (n48 : Nat),
 ∃ (n49 : Nat),
 idxA Try.prog 30 (.slice ut7 ut7n ut7c)
 (.int .i64 t9) =
 some (.pointer (some (.mk n48 n49 none))) ∧
 ∃ (s50 : ByteArray),
 rdVar Try.prog M47 9 n48 (Nat.succ n49) =
 some (Value.string s50) ∧
 ∃ (b51 : Bool),
 ∃ (M52 : Mem),
 Ret Try.prog 17 [.string s50] M47
 (.bool b51) M52 ∧
 ∃ (b53 : Bool),
 binA Try.prog BinOp.neq 4 (Operand.tmp 93)
 (Operand.tmp 99) (.bool b46)
 (.bool b51) =
 some (Value.bool b53) ∧
 cnd b53
 ((((n34 < List.length M27 →
 M33[n34]? = M27[n34]?) ∧
 True) ∧
 ((n48 < List.length M38 →
 M47[n48]? = M38[n48]?) ∧
 True) ∧
 True ∧ True) ∧
 R1 false M52)
 (∃ (n62 : Nat),
 ∃ (n63 : Nat),
 idxA Try.prog 30
 (.slice ut7 ut7n ut7c)
 (.int .i64 t9) =
 some
 (.pointer
 (some
 (.mk n62 n63 none))) ∧
 ∃ (s64 : ByteArray),
 rdVar Try.prog M52 9 n62
 (Nat.succ
 (Nat.succ n63)) =
 some (Value.string s64) ∧
 ∃ (b65 : Bool),
 ∃ (M66 : Mem),
 Ret Try.prog 16
 [.string s64] M52
 (.bool b65) M66 ∧
 ∃ (n67 : Nat),
 ∃ (n68 : Nat),
 idxA Try.prog 30
 (.slice
 ut7 ut7n
 ut7c)
 (.int
 .i64
 t9) =
 some
 (.pointer
 (some
 (.mk
 n67 n68
 none))) ∧
 ∃ (s69 :
 ByteArray),
 rdVar Try.prog
 M66 9 n67
 (Nat.succ
 (Nat.succ
 n68)) =
 some
 (.string
 s69) ∧
 ∃ (b70 :
 Bool),
 ∃ (M71 :
 Mem),
 Ret
 Try.prog
 17
 [.string
 s69]
 M66
 (.bool
 b70)
 M71 ∧
 ∃ (b72 :
 Bool),
 binA
 Try.prog
 BinOp.neq
 4
 (Operand.tmp
 108)
 (Operand.tmp
 114)
 (.bool
 b65)
 (.bool
 b70) =
 some
 (.bool
 b72) ∧
 (((n34 <
 List.length
 M27 →
 M33[n34]? =
 M27[n34]?) ∧
 True) ∧
 ((n48 <
 List.length
 M38 →
 M47[n48]? =
 M38[n48]?) ∧
 True) ∧
 ((n67 <
 List.length
 M52 →
 M66[n67]? =
 M52[n67]?) ∧
 True) ∧
 True) ∧
 cnd
 b72
 (R1
 false
 M71)
 (∀
 (t85 :
 List
 Value),
 TIn
 175
 [(3,
 .pointer
 (some
 (.mk
 ut3
 ut3o
 none))),
 (5,
 .pointer
 (some
 (.mk
 ut5
 ut5o
 none))),
 (7,
 .slice
 ut7
 ut7n
 ut7c),
 (9,
 .int
 .i64
 t9),
 (10,
 .slice
 a9
 n10
 n11),
 (12,
 .slice
 a23
 n24
 n25),
 (14,
 .int
 .i64
 (Int.ofNat
 0))]
 t85 →
 (∃
 (M86
 :
 Mem),
 LpT
 Try.prog
 (Env.fn
 3)
 [1,
 1,
 1,
 1,
 1,
 0,
 1,
 0,
 0,
 1,
 0,
 0,
 1,
 1,
 1,
 1,
 0]
 t85
 d
 M71
 rc
 (.exit
 2)
 []
 M86 ∧
 ∀
 (w87 :
 Nat →
 Value),
 ∃
 (n88
 :
 Nat),
 n88 <
 n ∧
 Inv
 n88
 (wrapF
 .i64
 (Int.add
 t9
 (Int.ofNat
 1)))
 M86) ∨
 ∃
 (b89
 :
 Bool),
 ∃
 (M90
 :
 Mem),
 LpT
 Try.prog
 (Env.fn
 3)
 [1,
 1,
 1,
 1,
 1,
 0,
 1,
 0,
 0,
 1,
 0,
 0,
 1,
 1,
 1,
 1,
 0]
 t85
 d
 M71
 rc
 .ret
 [(6,
 .bool
 b89)]
 M90 ∧
 ∀
 (w91 :
 Nat →
 Value),
 R1
 b89
 M90))))))
 (R0 M) )
 {n : Nat} {t9 : Int} {M : Mem} (h0 : Inv n t9 M) {t0 : List Value} (hT : TIn 175 [(3, .pointer (some (.mk ut3 ut3o none))), (5, .pointer (some (.mk ut5 ut5o none))), (7, .slice ut7 ut7n ut7c), (9, .int .i64 t9)] t0) :
 (∃ (M' : Mem), LpT Try.prog (Env.fn 3) [1, 1, 1, 1, 1, 0, 1, 0] t0 d M rc (.exit 0) [] M' ∧ R0 M') ∨ (∃ (ot6 : Bool) (M' : Mem), LpT Try.prog (Env.fn 3) [1, 1, 1, 1, 1, 0, 1, 0] t0 d M rc .ret [(6, .bool ot6)] M' ∧ R1 ot6 M') := by
 rcases loopT (P := Try.prog) (E := (Env.fn 3)) (sym := true) (ann := ann3) (p := [1, 1, 1, 1, 1, 0, 1, 0]) (stepC (codeOf Try.prog 3 [1, 1, 1, 1, 1, 0, 1, 0]) 0) (by kernel_rfl) (by kernel_rfl) [(3, .pointer (some (.mk ut3 ut3o none))), (5, .pointer (some (.mk ut5 ut5o none))), (7, .slice ut7 ut7n ut7c)] [9] (by kernel_rfl) (fun n xs M => match xs with | [.int .i64 t9] => Inv n t9 M | _ => False) [((.exit 0), [], fun xs M => match xs with | [] => R0 M | _ => False), (.ret, [6], fun xs M => match xs with | [.bool ot6] => R1 ot6 M | _ => False)] (fun n xs M h uu => by split at h <;> first | exact h.elim | exact (held_of (by kernel_rfl) (step n _ M h)).ok) (xs := [.int .i64 t9]) hT rfl h0 with ⟨_, _, h, g⟩ | ⟨_, _, h, g⟩
 · split at g <;> first | exact (.inl ⟨_, h, g⟩) | exact g.elim
 · split at g <;> first | exact (.inr ⟨_, _, h, g⟩) | exact g.elim

theorem loop3_1 {ut3 ut3o ut5 ut5o : Nat} {ut7 : Option Addr} {ut7n ut7c : Nat} {ut9 : Int} {ut10 : Option Addr} {ut10n ut10c : Nat} {ut12 : Option Addr} {ut12n ut12c : Nat} {d : List ADef} {rc : Bool} (Inv : Nat → Int → Mem → Prop) (R0 : Mem → Prop) (R1 : Bool → Mem → Prop)
 (step : ∀ (n : Nat) (t14 : Int) (M : Mem), Inv n t14 M →
 cnd (!leF (Int.ofNat ut10n) t14)
 (∃ (n0 : Nat),
 ∃ (n1 : Nat),
 idxA Try.prog 22 (.slice ut10 ut10n ut10c) (.int .i64 t14) = some (.pointer (some (.mk n0 n1 none))) ∧
 ∃ (i2 : Int),
 rdVar Try.prog M 3 n0 n1 = some (.int .i64 i2) ∧
 ∃ (n3 : Nat),
 ∃ (n4 : Nat),
 idxA Try.prog 22 (.slice ut12 ut12n ut12c) (.int .i64 t14) = some (.pointer (some (.mk n3 n4 none))) ∧
 ∃ (i5 : Int),
 rdVar Try.prog M 3 n3 n4 = some (.int .i64 i5) ∧
 True ∧ cnd (!eqF i2 i5) (R1 false M) (∃ (n6 : Nat), n6 < n ∧ Inv n6 (wrapF .i64 (Int.add t14 (Int.ofNat 1))) M))
 (R0 M) )
 {n : Nat} {t14 : Int} {M : Mem} (h0 : Inv n t14 M) {t0 : List Value} (hT : TIn 175 [(3, .pointer (some (.mk ut3 ut3o none))), (5, .pointer (some (.mk ut5 ut5o none))), (7, .slice ut7 ut7n ut7c), (9, .int .i64 ut9), (10, .slice ut10 ut10n ut10c), (12, .slice ut12 ut12n ut12c), (14, .int .i64 t14)] t0) :
 (∃ (M' : Mem), LpT Try.prog (Env.fn 3) [1, 1, 1, 1, 1, 0, 1, 0, 0, 1, 0, 0, 1, 1, 1, 1, 0] t0 d M rc (.exit 2) [] M' ∧ R0 M') ∨ (∃ (ot6 : Bool) (M' : Mem), LpT Try.prog (Env.fn 3) [1, 1, 1, 1, 1, 0, 1, 0, 0, 1, 0, 0, 1, 1, 1, 1, 0] t0 d M rc .ret [(6, .bool ot6)] M' ∧ R1 ot6 M') := by
 rcases loopT (P := Try.prog) (E := (Env.fn 3)) (sym := true) (ann := ann3) (p := [1, 1, 1, 1, 1, 0, 1, 0, 0, 1, 0, 0, 1, 1, 1, 1, 0]) (stepC (codeOf Try.prog 3 [1, 1, 1, 1, 1, 0, 1, 0, 0, 1, 0, 0, 1, 1, 1, 1, 0]) 0) (by kernel_rfl) (by kernel_rfl) [(3, .pointer (some (.mk ut3 ut3o none))), (5, .pointer (some (.mk ut5 ut5o none))), (7, .slice ut7 ut7n ut7c), (9, .int .i64 ut9), (10, .slice ut10 ut10n ut10c), (12, .slice ut12 ut12n ut12c)] [14] (by kernel_rfl) (fun n xs M => match xs with | [.int .i64 t14] => Inv n t14 M | _ => False) [((.exit 2), [], fun xs M => match xs with | [] => R0 M | _ => False), (.ret, [6], fun xs M => match xs with | [.bool ot6] => R1 ot6 M | _ => False)] (fun n xs M h uu => by split at h <;> first | exact h.elim | exact (held_of (by kernel_rfl) (step n _ M h)).ok) (xs := [.int .i64 t14]) hT rfl h0 with ⟨_, _, h, g⟩ | ⟨_, _, h, g⟩
 · split at g <;> first | exact (.inl ⟨_, h, g⟩) | exact g.elim
 · split at g <;> first | exact (.inr ⟨_, _, h, g⟩) | exact g.elim

theorem loop3_2 {ut3 ut3o ut5 ut5o : Nat} {d : List ADef} {rc : Bool} (Inv : Nat → Int → Mem → Prop) (R0 : Mem → Prop) (R1 : Bool → Mem → Prop)
 (step : ∀ (n : Nat) (t15 : Int) (M : Mem), Inv n t15 M →
 cnd (leF t15 (Int.ofNat 36))
 (∀ (t0 : List Value),
 TIn 175
 [(3, .pointer (some (.mk ut3 ut3o none))), (5, .pointer (some (.mk ut5 ut5o none))), (15, .int .i64 t15), (16, .int .i64 (Int.negSucc 0))]
 t0 →
 (∃ (M1 : Mem),
 LpT Try.prog (Env.fn 3) [1, 1, 1, 1, 1, 1, 0, 1, 0, 0, 1, 0, 0, 0, 1, 0] t0 d M rc (.exit 6) [] M1 ∧
 ∀ (w2 : Nat → Value),
 ∃ (s3 : ByteArray),
 ∃ (M4 : Mem),
 Ret Try.prog 14 [.int .i64 t15] M1 (.string s3) M4 ∧
 ∃ (s5 : ByteArray),
 ∃ (M6 : Mem),
 Ret Try.prog 15 [.int .i64 t15] M4 (.string s5) M6 ∧
 cnd (!eqS s3 s5) (R1 false M6) (∃ (n7 : Nat), n7 < n ∧ Inv n7 (wrapF .i64 (Int.add t15 (Int.ofNat 1))) M6)) ∨
 ∃ (b8 : Bool), ∃ (M9 : Mem), LpT Try.prog (Env.fn 3) [1, 1, 1, 1, 1, 1, 0, 1, 0, 0, 1, 0, 0, 0, 1, 0] t0 d M rc .ret [(6, .bool b8)] M9 ∧ ∀ (w10 : Nat → Value), R1 b8 M9)
 (R0 M) )
 {n : Nat} {t15 : Int} {M : Mem} (h0 : Inv n t15 M) {t0 : List Value} (hT : TIn 175 [(3, .pointer (some (.mk ut3 ut3o none))), (5, .pointer (some (.mk ut5 ut5o none))), (15, .int .i64 t15)] t0) :
 (∃ (M' : Mem), LpT Try.prog (Env.fn 3) [1, 1, 1, 1, 1, 1, 0, 1, 0] t0 d M rc (.exit 4) [] M' ∧ R0 M') ∨ (∃ (ot6 : Bool) (M' : Mem), LpT Try.prog (Env.fn 3) [1, 1, 1, 1, 1, 1, 0, 1, 0] t0 d M rc .ret [(6, .bool ot6)] M' ∧ R1 ot6 M') := by
 rcases loopT (P := Try.prog) (E := (Env.fn 3)) (sym := true) (ann := ann3) (p := [1, 1, 1, 1, 1, 1, 0, 1, 0]) (stepC (codeOf Try.prog 3 [1, 1, 1, 1, 1, 1, 0, 1, 0]) 0) (by kernel_rfl) (by kernel_rfl) [(3, .pointer (some (.mk ut3 ut3o none))), (5, .pointer (some (.mk ut5 ut5o none)))] [15] (by kernel_rfl) (fun n xs M => match xs with | [.int .i64 t15] => Inv n t15 M | _ => False) [((.exit 4), [], fun xs M => match xs with | [] => R0 M | _ => False), (.ret, [6], fun xs M => match xs with | [.bool ot6] => R1 ot6 M | _ => False)] (fun n xs M h uu => by split at h <;> first | exact h.elim | exact (held_of (by kernel_rfl) (step n _ M h)).ok) (xs := [.int .i64 t15]) hT rfl h0 with ⟨_, _, h, g⟩ | ⟨_, _, h, g⟩
 · split at g <;> first | exact (.inl ⟨_, h, g⟩) | exact g.elim
 · split at g <;> first | exact (.inr ⟨_, _, h, g⟩) | exact g.elim

theorem loop3_3 {ut3 ut3o ut5 ut5o : Nat} {ut15 : Int} {d : List ADef} {rc : Bool} (Inv : Nat → Int → Mem → Prop) (R0 : Mem → Prop) (R1 : Bool → Mem → Prop)
 (step : ∀ (n : Nat) (t16 : Int) (M : Mem), Inv n t16 M →
 cnd (!leF (Int.ofNat 7) t16)
 (∃ (b0 : Bool),
 ∃ (M1 : Mem),
 Ret Try.prog 18 [.int .i64 ut15, .int .i64 t16] M (.bool b0) M1 ∧
 ∃ (b2 : Bool),
 ∃ (M3 : Mem),
 Ret Try.prog 19 [.int .i64 ut15, .int .i64 t16] M1 (.bool b2) M3 ∧
 ∃ (b4 : Bool),
 binA Try.prog BinOp.neq 4 (Operand.tmp 142) (Operand.tmp 145) (.bool b0) (.bool b2) = some (.bool b4) ∧
 cnd b4 (R1 false M3) (∃ (n5 : Nat), n5 < n ∧ Inv n5 (wrapF .i64 (Int.add t16 (Int.ofNat 1))) M3))
 (R0 M) )
 {n : Nat} {t16 : Int} {M : Mem} (h0 : Inv n t16 M) {t0 : List Value} (hT : TIn 175 [(3, .pointer (some (.mk ut3 ut3o none))), (5, .pointer (some (.mk ut5 ut5o none))), (15, .int .i64 ut15), (16, .int .i64 t16)] t0) :
 (∃ (M' : Mem), LpT Try.prog (Env.fn 3) [1, 1, 1, 1, 1, 1, 0, 1, 0, 0, 1, 0, 0, 0, 1, 0] t0 d M rc (.exit 6) [] M' ∧ R0 M') ∨ (∃ (ot6 : Bool) (M' : Mem), LpT Try.prog (Env.fn 3) [1, 1, 1, 1, 1, 1, 0, 1, 0, 0, 1, 0, 0, 0, 1, 0] t0 d M rc .ret [(6, .bool ot6)] M' ∧ R1 ot6 M') := by
 rcases loopT (P := Try.prog) (E := (Env.fn 3)) (sym := true) (ann := ann3) (p := [1, 1, 1, 1, 1, 1, 0, 1, 0, 0, 1, 0, 0, 0, 1, 0]) (stepC (codeOf Try.prog 3 [1, 1, 1, 1, 1, 1, 0, 1, 0, 0, 1, 0, 0, 0, 1, 0]) 0) (by kernel_rfl) (by kernel_rfl) [(3, .pointer (some (.mk ut3 ut3o none))), (5, .pointer (some (.mk ut5 ut5o none))), (15, .int .i64 ut15)] [16] (by kernel_rfl) (fun n xs M => match xs with | [.int .i64 t16] => Inv n t16 M | _ => False) [((.exit 6), [], fun xs M => match xs with | [] => R0 M | _ => False), (.ret, [6], fun xs M => match xs with | [.bool ot6] => R1 ot6 M | _ => False)] (fun n xs M h uu => by split at h <;> first | exact h.elim | exact (held_of (by kernel_rfl) (step n _ M h)).ok) (xs := [.int .i64 t16]) hT rfl h0 with ⟨_, _, h, g⟩ | ⟨_, _, h, g⟩
 · split at g <;> first | exact (.inl ⟨_, h, g⟩) | exact g.elim
 · split at g <;> first | exact (.inr ⟨_, _, h, g⟩) | exact g.elim


end Go.Proofs.YtabkcbaknjenmaaAM

/-
  THE NODE LAWS: a node with few kids, and short names.
-/
set_option linter.unusedVariables false
set_option linter.unusedSimpArgs false
namespace Go.Proofs.YtabkcbaknjenmaaAM
open Go Go.Proofs
set_option maxRecDepth 100000
set_option maxHeartbeats 8000000

/-- A slice that is given: it may be cut. -/
def Given (M : Mem) (sz : Nat) (a : Option Addr) (n c : Nat) (l : List Value) : Prop := SliceR M sz a n c l ∧ ((a = none ∧ n = 0 ∧ c = 0) ∨ (n ≤ c ∧ c < 9223372036854775808))
theorem Given.keep {M M' : Mem} {sz n c : Nat} {a : Option Addr} {l : List Value} (h : Given M sz a n c l) (k : Keep M M') : Given M' sz a n c l := ⟨h.1.keep k, h.2⟩
theorem Given.cut {M : Mem} {sz n c : Nat} {a : Option Addr} {l : List Value} (h : Given M sz a n c l) {ty e : TypeId} (he : elemT Try.prog ty = some e) (hs : sizeT Try.prog e = some sz) {m : Nat} (hm : m ≤ n) :
    ∃ c', sliceA Try.prog M ty (.slice a n c) none (some (.int .i64 (Int.ofNat m))) none = some (.slice a m c') ∧ Given M sz a m c' (l.take (m * sz)) := by
  obtain ⟨⟨h1, h2⟩, h3⟩ := h
  have e3 : bnd none 0 = some 0 := rfl
  have hcap : capU = 9223372036854775808 := rfl
  rcases h2 with ⟨rfl, rfl, rfl⟩ | ⟨x, o, vs, u, md, rfl, g1, g2, g3, g4⟩
  · have hm0 : m = 0 := by omega
    subst hm0
    refine ⟨0, ?_, ⟨by simp, .inl ⟨rfl, rfl, rfl⟩⟩, .inl ⟨rfl, rfl, rfl⟩⟩
    simp [sliceA, he, hs, bnd]
  · have hc : n ≤ c ∧ c < 9223372036854775808 := by
      rcases h3 with ⟨h3, _⟩ | h3
      · simp at h3
      · exact h3
    have hmul : m * sz ≤ n * sz := Nat.mul_le_mul_right _ hm
    refine ⟨c, ?_, ⟨by rw [List.length_take]; omega, .inr ⟨x, o, vs, u, md, rfl, g1, g2, ?_, by omega⟩⟩, .inr ⟨by omega, hc.2⟩⟩
    · simp only [sliceA, he, hs, Option.bind_some, e3, bnd_nat]
      have e4 : bnd none c = some c := rfl
      rw [if_neg (by omega), e4, Option.bind_some, if_pos ⟨Nat.zero_le _, by omega, Nat.le_refl _, by omega⟩]
      simp
    · rw [← g3, List.take_take, Nat.min_eq_left hmul]
theorem minI (a b : Nat) : (if Int.ofNat a < Int.ofNat b then Int.ofNat a else Int.ofNat b) = Int.ofNat (min b a) := by
  split
  · rename_i h
    have : a < b := Int.ofNat_lt.1 h
    rw [Nat.min_eq_right (by omega)]
  · rename_i h
    have : ¬ a < b := fun hh => h (Int.ofNat_lt.2 hh)
    rw [Nat.min_eq_left (by omega)]
theorem str_cut (M : Mem) (s : ByteArray) (m : Nat) : ∃ s', sliceA Try.prog M 9 (.string s) none (some (.int .i64 (Int.ofNat (min s.size m)))) none = some (.string s') ∧ s'.size ≤ m := by
  have hk : kindT Try.prog 9 = some .str := by kernel_rfl
  have e3 : bnd none 0 = some 0 := rfl
  refine ⟨s.extract 0 (min s.size m), ?_, ?_⟩
  · simp only [sliceA, hk]
    rw [if_pos (by simp), e3, Option.bind_some, bnd_nat, Option.bind_some, if_pos ⟨Nat.zero_le _, Nat.min_le_left _ _⟩]
  · rw [ByteArray.size_extract]; omega

theorem ints_one (l : List Int) : (ints l).all Value.oneCell' = true := by
  rw [List.all_eq_true]
  intro v hv
  simp only [ints, List.mem_map] at hv
  obtain ⟨x, _, rfl⟩ := hv
  rfl
theorem few_ret {M : Mem} {nd : Nd} {ka : Option Addr} {kc : Nat} (hk : Given M 1 ka nd.kids.length kc (ints nd.kids)) :
    ∃ M' , ∃ nd' : Nd, ∃ ka' kc', Ret Try.prog 9 [.agg ⟨nd.v ka kc⟩] M (.agg ⟨nd'.v ka' kc'⟩) M' ∧ Keep M M' ∧ SliceR M' 1 ka' nd'.kids.length kc' (ints nd'.kids) ∧ nd'.name.size ≤ 40 ∧ nd'.arg.size ≤ 40 ∧ nd'.kids.length ≤ 140 := by
  suffices hh : ∃ v M', Ret Try.prog 9 [.agg ⟨nd.v ka kc⟩] M v M' ∧ ∃ nd' : Nd, ∃ ka' kc', v = .agg ⟨nd'.v ka' kc'⟩ ∧ Keep M M' ∧ SliceR M' 1 ka' nd'.kids.length kc' (ints nd'.kids) ∧ nd'.name.size ≤ 40 ∧ nd'.arg.size ≤ 40 ∧ nd'.kids.length ≤ 140 by
    obtain ⟨v, M', q1, nd', ka', kc', rfl, q2⟩ := hh
    exact ⟨M', nd', ka', kc', q1, q2⟩
  refine Ret.wpH hP (K := fun v M' => ∃ nd' : Nd, ∃ ka' kc', v = .agg ⟨nd'.v ka' kc'⟩ ∧ Keep M M' ∧ SliceR M' 1 ka' nd'.kids.length kc' (ints nd'.kids) ∧ nd'.name.size ≤ 40 ∧ nd'.arg.size ≤ 40 ∧ nd'.kids.length ≤ 140)
    (w9 (p00 := nd.kind) (p01 := nd.name) (p02 := nd.arg) (p03 := ka) (p03n := nd.kids.length) (p03c := kc) (p04 := nd.pos) (M := M) ?_)
  have hK3 : Keep M (M ++ [AObj.cells [.int .i64 nd.kind, .string nd.name, .string nd.arg, .slice ka nd.kids.length kc, .int .i64 nd.pos] 5 .live] ++ [AObj.cells [.int .i64 (Int.ofNat 0), .string ⟨#[]⟩, .string ⟨#[]⟩, .slice none 0 0, .int .i64 (Int.ofNat 0)] 5 .live] ++ [AObj.cells [] 1 .live]) := ((Keep.app _ _).one _).one _
  have ho := (Keep.app _ [AObj.cells [] 1 .live]).get ((Keep.app _ [AObj.cells [.int .i64 (Int.ofNat 0), .string ⟨#[]⟩, .string ⟨#[]⟩, .slice none 0 0, .int .i64 (Int.ofNat 0)] 5 .live]).get (get_last M (AObj.cells [.int .i64 nd.kind, .string nd.name, .string nd.arg, .slice ka nd.kids.length kc, .int .i64 nd.pos] 5 .live)))
  have hr := (Keep.app _ [AObj.cells [] 1 .live]).get (get_last (M ++ [AObj.cells [.int .i64 nd.kind, .string nd.name, .string nd.arg, .slice ka nd.kids.length kc, .int .i64 nd.pos] 5 .live]) (AObj.cells [.int .i64 (Int.ofNat 0), .string ⟨#[]⟩, .string ⟨#[]⟩, .slice none 0 0, .int .i64 (Int.ofNat 0)] 5 .live))
  have hz := get_last (M ++ [AObj.cells [.int .i64 nd.kind, .string nd.name, .string nd.arg, .slice ka nd.kids.length kc, .int .i64 nd.pos] 5 .live] ++ [AObj.cells [.int .i64 (Int.ofNat 0), .string ⟨#[]⟩, .string ⟨#[]⟩, .slice none 0 0, .int .i64 (Int.ofNat 0)] 5 .live]) (AObj.cells [] 1 .live)
  have hl1 : (M ++ [AObj.cells [.int .i64 nd.kind, .string nd.name, .string nd.arg, .slice ka nd.kids.length kc, .int .i64 nd.pos] 5 .live]).length = M.length + 1 := by simp
  have hl2 : (M ++ [AObj.cells [.int .i64 nd.kind, .string nd.name, .string nd.arg, .slice ka nd.kids.length kc, .int .i64 nd.pos] 5 .live] ++ [AObj.cells [.int .i64 (Int.ofNat 0), .string ⟨#[]⟩, .string ⟨#[]⟩, .slice none 0 0, .int .i64 (Int.ofNat 0)] 5 .live]).length = M.length + 2 := by simp
  have hl3 : (M ++ [AObj.cells [.int .i64 nd.kind, .string nd.name, .string nd.arg, .slice ka nd.kids.length kc, .int .i64 nd.pos] 5 .live] ++ [AObj.cells [.int .i64 (Int.ofNat 0), .string ⟨#[]⟩, .string ⟨#[]⟩, .slice none 0 0, .int .i64 (Int.ofNat 0)] 5 .live] ++ [AObj.cells [] 1 .live]).length = M.length + 3 := by simp
  rw [hl1] at hr
  have hk3 := hk.keep hK3
  have hrd0 := (at_of ho).rd k22 (o := 3) rfl
  have hx1 : M.length + 1 = (M ++ [AObj.cells [.int .i64 nd.kind, .string nd.name, .string nd.arg, .slice ka nd.kids.length kc, .int .i64 nd.pos] 5 .live]).length := hl1.symm
  generalize hM3 : M ++ [AObj.cells [.int .i64 nd.kind, .string nd.name, .string nd.arg, .slice ka nd.kids.length kc, .int .i64 nd.pos] 5 .live] ++ [AObj.cells [.int .i64 (Int.ofNat 0), .string ⟨#[]⟩, .string ⟨#[]⟩, .slice none 0 0, .int .i64 (Int.ofNat 0)] 5 .live] ++ [AObj.cells [] 1 .live] = M3 at *
  have hmin : min nd.kids.length 140 ≤ nd.kids.length := Nat.min_le_left _ _
  obtain ⟨c', q1, q2⟩ := hk3.cut (ty := 22) (e := 3) (by kernel_rfl) (by kernel_rfl) hmin
  have hcutl : (ints nd.kids).take (min nd.kids.length 140 * 1) = ints (nd.kids.take (min nd.kids.length 140)) := by rw [Nat.mul_one]; simp [ints, List.map_take]
  rw [hcutl] at q2
  obtain ⟨y, c2, G, g1, g2, g3, g4⟩ := append_fresh E22 hz q2.1.src (by simp [ints]) (ints_one _) (by omega) (by omega) rfl
  have hy : M.length + 2 ≤ y := by rcases g3 with h | h <;> omega
  have ho12 := (Keep.app M3 G).get ho
  have hr12 := (Keep.app M3 G).get hr
  have hK12 := hK3.trans (.app M3 G)
  generalize hM12 : M3 ++ G = M12 at *
  have w1 := wrCells_at ho12 (o := 3) (new := [.slice (some ⟨y, 0, none⟩) (min nd.kids.length 140) c2]) (by show 3 + 1 ≤ 5; decide) rfl
  have hol := (List.getElem?_eq_some_iff.1 ho12).1
  have ho13 : (M12.set M.length (.cells (splice [.int .i64 nd.kind, .string nd.name, .string nd.arg, .slice ka nd.kids.length kc, .int .i64 nd.pos] 3 [.slice (some ⟨y, 0, none⟩) (min nd.kids.length 140) c2]) 5 .live))[M.length]? = some (.cells [.int .i64 nd.kind, .string nd.name, .string nd.arg, .slice (some ⟨y, 0, none⟩) (min nd.kids.length 140) c2, .int .i64 nd.pos] 5 .live) := by
    rw [List.getElem?_set]; simp [hol]; rfl
  have hset := fun (A : Mem) (o : AObj) (x : Nat) (hx : x ≠ M.length) => List.getElem?_set_ne (l := A) (a := o) (fun e : M.length = x => hx e.symm)
  have hr13 := (hset M12 (.cells (splice [.int .i64 nd.kind, .string nd.name, .string nd.arg, .slice ka nd.kids.length kc, .int .i64 nd.pos] 3 [.slice (some ⟨y, 0, none⟩) (min nd.kids.length 140) c2]) 5 .live) (M.length + 1) (by omega)).trans hr12
  have hy13 := (hset M12 (.cells (splice [.int .i64 nd.kind, .string nd.name, .string nd.arg, .slice ka nd.kids.length kc, .int .i64 nd.pos] 3 [.slice (some ⟨y, 0, none⟩) (min nd.kids.length 140) c2]) 5 .live) y (by omega)).trans g2
  have hK13 := hK12.set (Nat.le_refl _) (.cells (splice [.int .i64 nd.kind, .string nd.name, .string nd.arg, .slice ka nd.kids.length kc, .int .i64 nd.pos] 3 [.slice (some ⟨y, 0, none⟩) (min nd.kids.length 140) c2]) 5 .live)
  generalize M12.set M.length (.cells (splice [.int .i64 nd.kind, .string nd.name, .string nd.arg, .slice ka nd.kids.length kc, .int .i64 nd.pos] 3 [.slice (some ⟨y, 0, none⟩) (min nd.kids.length 140) c2]) 5 .live) = M13 at *
  obtain ⟨s1, t1, t2⟩ := str_cut M13 nd.name 40
  have w2 := wrCells_at ho13 (o := 1) (new := [.string s1]) (by show 1 + 1 ≤ 5; decide) rfl
  have hol13 := (List.getElem?_eq_some_iff.1 ho13).1
  have ho17 : (M13.set M.length (.cells (splice [.int .i64 nd.kind, .string nd.name, .string nd.arg, .slice (some ⟨y, 0, none⟩) (min nd.kids.length 140) c2, .int .i64 nd.pos] 1 [.string s1]) 5 .live))[M.length]? = some (.cells [.int .i64 nd.kind, .string s1, .string nd.arg, .slice (some ⟨y, 0, none⟩) (min nd.kids.length 140) c2, .int .i64 nd.pos] 5 .live) := by
    rw [List.getElem?_set]; simp [hol13]; rfl
  have hr17 := (hset M13 (.cells (splice [.int .i64 nd.kind, .string nd.name, .string nd.arg, .slice (some ⟨y, 0, none⟩) (min nd.kids.length 140) c2, .int .i64 nd.pos] 1 [.string s1]) 5 .live) (M.length + 1) (by omega)).trans hr13
  have hy17 := (hset M13 (.cells (splice [.int .i64 nd.kind, .string nd.name, .string nd.arg, .slice (some ⟨y, 0, none⟩) (min nd.kids.length 140) c2, .int .i64 nd.pos] 1 [.string s1]) 5 .live) y (by omega)).trans hy13
  have hK17 := hK13.set (Nat.le_refl _) (.cells (splice [.int .i64 nd.kind, .string nd.name, .string nd.arg, .slice (some ⟨y, 0, none⟩) (min nd.kids.length 140) c2, .int .i64 nd.pos] 1 [.string s1]) 5 .live)
  generalize M13.set M.length (.cells (splice [.int .i64 nd.kind, .string nd.name, .string nd.arg, .slice (some ⟨y, 0, none⟩) (min nd.kids.length 140) c2, .int .i64 nd.pos] 1 [.string s1]) 5 .live) = M17 at *
  obtain ⟨s2, t3, t4⟩ := str_cut M17 nd.arg 40
  have w3 := wrCells_at ho17 (o := 2) (new := [.string s2]) (by show 2 + 1 ≤ 5; decide) rfl
  have hol17 := (List.getElem?_eq_some_iff.1 ho17).1
  have ho21 : (M17.set M.length (.cells (splice [.int .i64 nd.kind, .string s1, .string nd.arg, .slice (some ⟨y, 0, none⟩) (min nd.kids.length 140) c2, .int .i64 nd.pos] 2 [.string s2]) 5 .live))[M.length]? = some (.cells [.int .i64 nd.kind, .string s1, .string s2, .slice (some ⟨y, 0, none⟩) (min nd.kids.length 140) c2, .int .i64 nd.pos] 5 .live) := by
    rw [List.getElem?_set]; simp [hol17]; rfl
  have hr21 := (hset M17 (.cells (splice [.int .i64 nd.kind, .string s1, .string nd.arg, .slice (some ⟨y, 0, none⟩) (min nd.kids.length 140) c2, .int .i64 nd.pos] 2 [.string s2]) 5 .live) (M.length + 1) (by omega)).trans hr17
  have hy21 := (hset M17 (.cells (splice [.int .i64 nd.kind, .string s1, .string nd.arg, .slice (some ⟨y, 0, none⟩) (min nd.kids.length 140) c2, .int .i64 nd.pos] 2 [.string s2]) 5 .live) y (by omega)).trans hy17
  have hK21 := hK17.set (Nat.le_refl _) (.cells (splice [.int .i64 nd.kind, .string s1, .string nd.arg, .slice (some ⟨y, 0, none⟩) (min nd.kids.length 140) c2, .int .i64 nd.pos] 2 [.string s2]) 5 .live)
  generalize M17.set M.length (.cells (splice [.int .i64 nd.kind, .string s1, .string nd.arg, .slice (some ⟨y, 0, none⟩) (min nd.kids.length 140) c2, .int .i64 nd.pos] 2 [.string s2]) 5 .live) = M21 at *
  have w4 := wrCells_at hr21 (o := 0) (new := [.int .i64 nd.kind, .string s1, .string s2, .slice (some ⟨y, 0, none⟩) (min nd.kids.length 140) c2, .int .i64 nd.pos]) (by show 0 + 5 ≤ 5; decide) rfl
  have hsp : splice [.int .i64 (Int.ofNat 0), .string ⟨#[]⟩, .string ⟨#[]⟩, .slice none 0 0, .int .i64 (Int.ofNat 0)] 0 [.int .i64 nd.kind, .string s1, .string s2, .slice (some ⟨y, 0, none⟩) (min nd.kids.length 140) c2, .int .i64 nd.pos] = [.int .i64 nd.kind, .string s1, .string s2, .slice (some ⟨y, 0, none⟩) (min nd.kids.length 140) c2, .int .i64 nd.pos] := rfl
  rw [hsp] at w4
  have hrl := (List.getElem?_eq_some_iff.1 hr21).1
  have hr29 : (M21.set (M.length + 1) (.cells [.int .i64 nd.kind, .string s1, .string s2, .slice (some ⟨y, 0, none⟩) (min nd.kids.length 140) c2, .int .i64 nd.pos] 5 .live))[M.length + 1]? = some (.cells [.int .i64 nd.kind, .string s1, .string s2, .slice (some ⟨y, 0, none⟩) (min nd.kids.length 140) c2, .int .i64 nd.pos] 5 .live) := by
    rw [List.getElem?_set]; simp [hrl]
  have hy29 : (M21.set (M.length + 1) (.cells [.int .i64 nd.kind, .string s1, .string s2, .slice (some ⟨y, 0, none⟩) (min nd.kids.length 140) c2, .int .i64 nd.pos] 5 .live))[y]? = some (.cells (ints (nd.kids.take (min nd.kids.length 140))) 1 .live) := by
    rw [List.getElem?_set_ne (by omega)]; exact hy21
  rw [← minI] at q1 t1 t3
  rw [hx1] at w4 hr29
  have hrdF := (at_of hr29).rdA k24 s24
  refine ⟨_, _, _, hrd0, _, _, _, hrd0, _, _, _, q1, _, _, _, _, g1, _, w1, _, (at_of ho13).rd k9 (o := 1) rfl, _, (at_of ho13).rd k9 (o := 1) rfl, _, t1, _, w2, _, (at_of ho17).rd k9 (o := 2) rfl, _, (at_of ho17).rd k9 (o := 2) rfl, _, t3, _, w3, _, _, _, _, _, _, _, (at_of ho21).rdA k24 s24, _, w4, _, _, _, _, _, _, _, hrdF,
    ⟨nd.kind, s1, s2, nd.kids.take (min nd.kids.length 140), nd.pos⟩, some ⟨y, 0, none⟩, c2, ?_, ?_, ?_, t2, t4, by simp; omega⟩
  · simp [Nd.v, nodeV]
  · rw [← hx1]; exact hK21.set (by omega) _
  · rw [← hx1]
    exact .at_ hy29 (by decide) (by simp [ints])

end Go.Proofs.YtabkcbaknjenmaaAM

/-
  THE NODE LAWS: what the law NodeTells does.
-/
set_option linter.unusedVariables false
set_option linter.unusedSimpArgs false
namespace Go.Proofs.YtabkcbaknjenmaaAM
open Go Go.Proofs
set_option maxRecDepth 100000
set_option maxHeartbeats 8000000

/-- Appending to a row that is full. -/
theorem append_full {ty xty e : TypeId} {size bytes : Nat} (E : Elem ty xty e size bytes) {M : Mem} {z n m : Nat} {x : Value} {l new : List Value} (hz : M[z]? = some (.cells l size .live)) (hl : l.length = n * size) (hs : srcA Try.prog M size x = some (m, new)) (hn : new.length = m * size) (hfit : (n + m) * bytes ≤ 140737488355328) (hfit2 : n + m ≤ 4611686018427387904) :
    ∃ a' c' G, appendA Try.prog M ty xty (.slice (some ⟨z, 0, none⟩) n n) x = some (.slice a' (n + m) c', M ++ G) ∧ SliceR (M ++ G) size a' (n + m) c' (l ++ new) := by
  obtain ⟨ze, hze, hz2⟩ := E.ze
  obtain ⟨xk, hxk, hxk2⟩ : ∃ xk, kindT Try.prog xty = some xk ∧ (xk = .slice ∨ xk = .str) := by
    rcases E.xk with h | h
    · exact ⟨_, h, .inl rfl⟩
    · exact ⟨_, h, .inr rfl⟩
  have hcnd : ¬ ((xk ≠ .slice ∧ xk ≠ .str) ∨ size = 0 ∨ ze.cells.size ≠ size) := by
    rintro (⟨h1, h2⟩ | h | h)
    · rcases hxk2 with h | h
      · exact h1 h
      · exact h2 h
    · have := E.pos; omega
    · exact h hz2
  have hcap : capU = 9223372036854775808 := rfl
  have key : appendA Try.prog M ty xty (.slice (some ⟨z, 0, none⟩) n n) x =
      (if m = 0 then (if n ≠ capU → n ≤ n then some (.slice (some ⟨z, 0, none⟩) n n, M) else none)
      else if n ≠ capU ∧ n + m ≤ n then (wrCells M z (0 + n * size) new).map fun M' => (.slice (some ⟨z, 0, none⟩) (n + m) n, M')
      else if room47 (n + m) bytes = false ∨ n + m > 4611686018427387904 then none
      else if n ≠ capU then (rdCells M z 0 (n * size)).map fun old => (.slice (some ⟨M.length, 0, none⟩) (n + m) capU, M ++ [.cells (old ++ new) size .live])
      else match M[z]? with
          | some (.cells vs u' .live) => if u' = size ∧ new.all Value.oneCell' = true then (rdCells M z 0 (n * size)).map fun old => (.slice (some ⟨M.length, 0, none⟩) (n + m) capU, M.set z (.cells vs u' .dead) ++ [.cells (old ++ new) size .live]) else none
          | _ => none) := by
    unfold appendA
    simp only [E.el, E.sz, E.by_, hze, hxk, hs, Option.bind_some]
    rw [if_neg hcnd]
    rfl
  rw [key]
  by_cases hm : m = 0
  · subst hm
    have : new = [] := List.eq_nil_of_length_eq_zero (by omega)
    subst this
    rw [if_pos rfl, if_pos (fun _ => Nat.le_refl _)]
    exact ⟨some ⟨z, 0, none⟩, n, [], by simp, by simpa using SliceR.at_ (c := n) hz (by decide) hl⟩
  · rw [if_neg hm, if_neg (by omega), if_neg (by simp only [room47, decide_eq_false_iff_not]; omega), if_pos (by omega), rdCells_at hz (by decide) (by omega)]
    simp only [Option.map_some, List.drop_zero]
    rw [List.take_of_length_le (by omega)]
    exact ⟨_, _, _, rfl, .at_ (get_last _ _) (by decide) (by rw [List.length_append, hl, hn, Nat.add_mul])⟩

def ndOf : Nat → List GN → List Nd
  | _, [] => []
  | i, g :: l => ⟨Int.ofNat g.kind, g.name, g.arg, g.kids.map Int.ofNat, Int.ofNat i⟩ :: ndOf (i + 1) l
theorem ndOf_len : ∀ (l : List GN) (i : Nat), (ndOf i l).length = l.length
  | [], _ => rfl
  | g :: l, i => by simp [ndOf, ndOf_len l]
theorem ndOf_get : ∀ (l : List GN) (i k : Nat) (h : k < l.length), (ndOf i l)[k]? = some ⟨Int.ofNat l[k].kind, l[k].name, l[k].arg, l[k].kids.map Int.ofNat, Int.ofNat (i + k)⟩
  | g :: l, i, 0, h => rfl
  | g :: l, i, k + 1, h => by
    have := ndOf_get l (i + 1) k (by simpa using h)
    simp only [ndOf, List.getElem?_cons_succ, List.getElem_cons_succ, this]
    rw [show i + 1 + k = i + (k + 1) by omega]
theorem NodesRep.ndR {M : Mem} {V : List Nat} : ∀ {l : List GN} {i : Nat} {cs : List Value}, NodesRep M V i l cs → NdR M (ndOf i l) cs
  | [], _, _, h => h
  | g :: l, i, cs, ⟨ka, kc, rest, h1, h2, h3, h4⟩ => ⟨ka, kc, rest, by simp only [Nd.v, List.length_map]; exact h1, by simp only [List.length_map]; exact h2, h4.ndR⟩
theorem Drawn.tree {M M' : Mem} {v : Value} {ns : List GN} {defs : List Nat} (h : Drawn M M' v ns defs) : Keep M M' ∧ TreeR M' v (ndOf 0 ns) (defs.map Int.ofNat) ∧ Sz 200000 (ndOf 0 ns) (defs.map Int.ofNat) := by
  obtain ⟨na, nc, da, dc, cs, V, rfl, h1, h2, h3, h4, h5, h6⟩ := h.ex
  refine ⟨h1.1, ⟨na, nc, da, dc, cs, by simp [ndOf_len], by rw [ndOf_len]; exact h1.slice, h2.ndR, by simpa using h5.slice⟩, by rw [ndOf_len]; exact h.len.2.2, by simp; have := h.len.2.1; omega, fun n hn => ?_⟩
  obtain ⟨k, hk, rfl⟩ := List.getElem_of_mem hn
  rw [ndOf_len] at hk
  have := ndOf_get ns 0 k hk
  rw [List.getElem?_eq_getElem (by rw [ndOf_len]; exact hk)] at this
  injection this with this
  rw [this]
  obtain ⟨a, b, c⟩ := (h.ok k ns[k] (List.getElem?_eq_getElem hk)).short
  exact ⟨by show ns[k].name.size ≤ 1000; omega, by show ns[k].arg.size ≤ 1000; omega, by simp; omega⟩

theorem KidsRes.both {M : Mem} {v : Value} {r : Option (List Int)} (h : KidsRes M v r) : ∃ a c, v = .tuple ⟨[.slice a (r.getD []).length c, .bool r.isSome]⟩ ∧ Row M a (ints (r.getD [])) := by
  cases r with
  | none => exact ⟨none, 0, h, .inl rfl⟩
  | some l => exact h
theorem ints_at {M : Mem} {a : Option Addr} {l : List Int} (h : Row M a (ints l)) {k : Nat} (hk : k < l.length) {c : Nat} {i : Int} (hi : i = Int.ofNat k) :
    ∃ y o, idxA Try.prog 22 (.slice a l.length c) (.int .i64 i) = some (.pointer (some ⟨y, o, none⟩)) ∧ rdVar Try.prog M 3 y o = some (.int .i64 l[k]) := by
  rcases h with h | ⟨x, o, rfl, h⟩
  · have : l.length = 0 := by simpa [ints] using congrArg List.length h
    omega
  · have q1 := idx_of (ty := 22) (e := 3) (size := 1) (by kernel_rfl) (by kernel_rfl) (x := x) (o := o) (n := l.length) (c := c) (kk := .i64) hi hk
    rw [Nat.mul_one] at q1
    refine ⟨x, o + k, q1, rd_of_cell k3 ?_⟩
    rw [h k (by simpa [ints] using hk)]
    simp [ints]
theorem neqB (b : Bool) (x y : Operand) : binA Try.prog .neq 4 x y (.bool b) (.bool b) = some (.bool false) := by cases b <;> kernel_rfl
theorem eqlB (b : Bool) (x y : Operand) : binA Try.prog .eql 4 x y (.bool b) (.bool b) = some (.bool true) := by cases b <;> kernel_rfl
theorem eqF_self (i : Int) : eqF i i = true := eqF_t.2 rfl
theorem eqS_self (s : ByteArray) : eqS s s = true := eqS_t.2 rfl
theorem lp_or {L : Mem → Prop} {L' : Bool → Mem → Prop} {R S : Mem → Prop} {X : Prop} (h : (∃ M', L M' ∧ R M') ∨ (∃ b M', L' b M' ∧ False)) (k : ∀ M', R M' → S M') : (∃ M', L M' ∧ ((Nat → Value) → S M')) ∨ X := by
  rcases h with ⟨M', h1, h2⟩ | ⟨_, _, _, h⟩
  · exact .inl ⟨M', h1, fun _ => k _ h2⟩
  · exact h.elim
theorem k28 : (kindT Try.prog 28).map aggK = some true := by kernel_rfl
theorem s28 : sizeT Try.prog 28 = some 4 := by kernel_rfl
theorem short_of {s : ByteArray} {n : Nat} (h : s.size ≤ n) (hn : n ≤ 1000000) : Short s := by unfold Short; omega

theorem rdVar_keep {M M' : Mem} {ty : TypeId} {x o : Nat} {v : Value} (h : rdVar Try.prog M ty x o = some v) (k : Keep M M') : rdVar Try.prog M' ty x o = some v := by
  by_cases hx : x < M.length
  · have e : ∀ n, rdCells M' x o n = rdCells M x o n := fun n => by unfold rdCells; rw [k.same hx]
    unfold rdVar at h ⊢
    simpa only [e] using h
  · have e : ∀ n, rdCells M x o n = none := fun n => by unfold rdCells; rw [List.getElem?_eq_none (by omega)]
    unfold rdVar at h
    simp only [e] at h
    cases hk : kindT Try.prog ty with
    | none => rw [hk] at h; simp at h
    | some kk =>
      rw [hk] at h
      simp only [Option.bind_some] at h
      split at h
      · cases hs : sizeT Try.prog ty with
        | none => rw [hs] at h; simp at h
        | some n => rw [hs] at h; simp at h
      · simp at h
/-- All nodes are asked; the kinds; the sorts. -/
def LInv (M0 : Mem) (N : Nat) (lo : Int) (n : Nat) (t : Int) (M' : Mem) : Prop := ∃ k : Nat, t = lo + (k : Int) ∧ k + n = N ∧ Keep M0 M'
theorem LInv.start (M0 : Mem) (N : Nat) (lo : Int) : LInv M0 N lo N lo M0 := ⟨0, by omega, by omega, .refl _⟩
theorem LInv.next {M0 : Mem} {N : Nat} {lo : Int} {n : Nat} {t : Int} {M' M2 : Mem} (h : LInv M0 N lo n t M') (hn : 0 < n) (hK : Keep M' M2) (hN : N ≤ 1000000) (hlo : -1000 ≤ lo ∧ lo ≤ 1000) : ∃ m, m < n ∧ LInv M0 N lo m (wrapF .i64 (Int.add t (Int.ofNat 1))) M2 := by
  obtain ⟨k, rfl, h2, h3⟩ := h
  refine ⟨n - 1, by omega, k + 1, ?_, by omega, h3.trans hK⟩
  have e : Int.add (lo + (k : Int)) (Int.ofNat 1) = lo + ((k + 1 : Nat) : Int) := by show lo + (k : Int) + 1 = _; omega
  rw [e]
  exact wrap64 (by omega) (by omega)

theorem kidsS_len (i : Int) (nm ar : ByteArray) (n : Nat) : ((kidsS i nm ar n).getD []).length ≤ n := by
  unfold kidsS
  cases h : (leF (Int.ofNat 0) i && (leF i (Int.ofNat 35) && (namedS i nm ar && ((sortsS i nm n).2 && Nat.beq (sortsS i nm n).1.length n)))) with
  | false => simp
  | true =>
    simp only [Bool.and_eq_true] at h
    have := Nat.eq_of_beq_eq_true h.2.2.2.2
    simp [this]
theorem tells_ret {M : Mem} {nd : Nd} {ka : Option Addr} {kc : Nat} (hk : Given M 1 ka nd.kids.length kc (ints nd.kids)) {l : List UInt8} {la : Option Addr} {lc : Nat} (hl : Given M 1 la l.length lc (l.map fun b => .int .u8 (b.toNat : Nat))) {a c : Nat} (hc : c < 256) {i : Int} {s : ByteArray} :
    ∃ M', Ret Try.prog 3 [.agg ⟨nd.v ka kc⟩, .slice la l.length lc, .agg ⟨[.int .u8 (Int.ofNat a), .int .u8 (Int.ofNat c), .int .i16 i, .string s]⟩] M (.bool true) M' := by
  suffices hh : ∃ v M', Ret Try.prog 3 [.agg ⟨nd.v ka kc⟩, .slice la l.length lc, .agg ⟨[.int .u8 (Int.ofNat a), .int .u8 (Int.ofNat c), .int .i16 i, .string s]⟩] M v M' ∧ v = .bool true by
    obtain ⟨v, M', h1, rfl⟩ := hh
    exact ⟨M', h1⟩
  refine Ret.wpH hP (K := fun v M' => v = .bool true) (w3 (p00 := nd.kind) (p01 := nd.name) (p02 := nd.arg) (p03 := ka) (p03n := nd.kids.length) (p03c := kc) (p04 := nd.pos) (p1 := la) (p1n := l.length) (p1c := lc) (p20 := Int.ofNat a) (p21 := Int.ofNat c) (p22 := i) (p23 := s) (M := M) ?_)
  have hKx : Keep M (M ++ [AObj.cells [.int .i64 nd.kind, .string nd.name, .string nd.arg, .slice ka nd.kids.length kc, .int .i64 nd.pos] 5 .live] ++ [AObj.cells [.int .u8 (Int.ofNat a), .int .u8 (Int.ofNat c), .int .i16 i, .string s] 4 .live]) := (Keep.app _ _).one _
  have hn := (Keep.app _ [AObj.cells [.int .u8 (Int.ofNat a), .int .u8 (Int.ofNat c), .int .i16 i, .string s] 4 .live]).get (get_last M (AObj.cells [.int .i64 nd.kind, .string nd.name, .string nd.arg, .slice ka nd.kids.length kc, .int .i64 nd.pos] 5 .live))
  have hx := get_last (M ++ [AObj.cells [.int .i64 nd.kind, .string nd.name, .string nd.arg, .slice ka nd.kids.length kc, .int .i64 nd.pos] 5 .live]) (AObj.cells [.int .u8 (Int.ofNat a), .int .u8 (Int.ofNat c), .int .i16 i, .string s] 4 .live)
  have hl1 : (M ++ [AObj.cells [.int .i64 nd.kind, .string nd.name, .string nd.arg, .slice ka nd.kids.length kc, .int .i64 nd.pos] 5 .live]).length = M.length + 1 := by simp
  generalize hx1 : (M ++ [AObj.cells [.int .i64 nd.kind, .string nd.name, .string nd.arg, .slice ka nd.kids.length kc, .int .i64 nd.pos] 5 .live]).length = x1 at *
  generalize M ++ [AObj.cells [.int .i64 nd.kind, .string nd.name, .string nd.arg, .slice ka nd.kids.length kc, .int .i64 nd.pos] 5 .live] ++ [AObj.cells [.int .u8 (Int.ofNat a), .int .u8 (Int.ofNat c), .int .i16 i, .string s] 4 .live] = M2 at *
  obtain ⟨s2, t1, t2⟩ := str_cut M2 s 40
  rw [← minI] at t1
  have w1 := wrCells_at hx (o := 3) (new := [.string s2]) (by show 3 + 1 ≤ 4; decide) rfl
  have hsp : splice [.int .u8 (Int.ofNat a), .int .u8 (Int.ofNat c), .int .i16 i, .string s] 3 [.string s2] = [.int .u8 (Int.ofNat a), .int .u8 (Int.ofNat c), .int .i16 i, .string s2] := rfl
  rw [hsp] at w1
  have hxl := (List.getElem?_eq_some_iff.1 hx).1
  have hx3 : (M2.set x1 (.cells [.int .u8 (Int.ofNat a), .int .u8 (Int.ofNat c), .int .i16 i, .string s2] 4 .live))[x1]? = some (.cells [.int .u8 (Int.ofNat a), .int .u8 (Int.ofNat c), .int .i16 i, .string s2] 4 .live) := by
    rw [List.getElem?_set]; simp [hxl]
  have hn3 : (M2.set x1 (.cells [.int .u8 (Int.ofNat a), .int .u8 (Int.ofNat c), .int .i16 i, .string s2] 4 .live))[M.length]? = some (AObj.cells [.int .i64 nd.kind, .string nd.name, .string nd.arg, .slice ka nd.kids.length kc, .int .i64 nd.pos] 5 .live) := by
    rw [List.getElem?_set_ne (by omega)]; exact hn
  have hK3 : Keep M (M2.set x1 (.cells [.int .u8 (Int.ofNat a), .int .u8 (Int.ofNat c), .int .i16 i, .string s2] 4 .live)) := hKx.set (by omega) _
  have hrx := (at_of hx).rd k9 (o := 3) rfl
  generalize M2.set x1 (.cells [.int .u8 (Int.ofNat a), .int .u8 (Int.ofNat c), .int .i16 i, .string s2] 4 .live) = M3 at *
  obtain ⟨M18, nd', ka', kc', f1, f2, f3, f4, f5, f6⟩ := few_ret (hk.keep hK3)
  have hK19 : Keep M3 (M18 ++ [AObj.cells (nd'.v ka' kc') 5 .live]) := f2.one _
  obtain ⟨lc', g1, g2⟩ := (hl.keep (hK3.trans hK19)).cut (ty := 25) (e := 5) (by kernel_rfl) (by kernel_rfl) (Nat.min_le_left l.length 300)
  rw [← minI] at g1
  have hlm : (l.map fun b => Value.int .u8 (b.toNat : Nat)).take (min l.length 300 * 1) = (l.take (min l.length 300)).map fun b => Value.int .u8 (b.toNat : Nat) := by rw [Nat.mul_one, List.map_take]
  rw [hlm] at g2
  have hlen : (l.take (min l.length 300)).length = min l.length 300 := by simp
  have g3 := g2.1.row
  have g4 : ∀ y ∈ blk la, y < (M18 ++ [AObj.cells (nd'.v ka' kc') 5 .live]).length := by
    intro y hy
    rcases g2.1.2 with ⟨e, _⟩ | ⟨x, o, vs, u, m, e, e2, _⟩
    · rw [e] at hy; simp [blk] at hy
    · rw [e] at hy; simp [blk] at hy; subst hy; exact (List.getElem?_eq_some_iff.1 e2).1
  obtain ⟨vT, M32, ns, defs, h1, h2⟩ := tree_ret (c := lc') g3 g4 (by rw [hlen]; omega)
  rw [hlen] at h1
  obtain ⟨hK32, hT, hS⟩ := h2.tree
  have hT0 := hT
  obtain ⟨_, _, _, _, _, rfl, _⟩ := hT0
  obtain ⟨vU, M39, h3, hK39, nds, ds, hU, hUs⟩ := turned_ret hT (B := 200000) (by decide) hS (a := a) hc (i := i) (s := s2) (by omega)
  have hU0 := hU
  obtain ⟨na, nc, da, dc, cs, rfl, hU1, hU2, hU3⟩ := hU0
  have w2 := wr_last (M := M39) (vs := [.slice none 0 0, .slice none 0 0]) (new := [.slice na nds.length nc, .slice da ds.length dc]) (u := 2) rfl rfl
  have hK40 : Keep M39 (M39 ++ [AObj.cells [.slice na nds.length nc, .slice da ds.length dc] 2 .live]) := .app _ _
  have hKK : Keep M18 (M39 ++ [AObj.cells [.slice na nds.length nc, .slice da ds.length dc] 2 .live]) := (((Keep.app M18 [AObj.cells (nd'.v ka' kc') 5 .live]).trans hK32).trans hK39).trans hK40
  have hlit : (M39 ++ [AObj.cells [.slice na nds.length nc, .slice da ds.length dc] 2 .live])[M18.length]? = some (AObj.cells (nd'.v ka' kc') 5 .live) := ((hK32.trans hK39).trans hK40).get (get_last _ _)
  obtain ⟨a48, c48, G, w3', w4⟩ := append_full E30 (z := M18.length) (n := 1) hlit rfl (hU1.keep hK40).src hU1.1 (by have := hUs.1; omega) (by have := hUs.1; omega)
  have hK51 := hKK.trans (.app _ G)
  have hcalm : (x1 < (M18 ++ [AObj.cells (nd'.v ka' kc') 5 .live]).length → M32[x1]? = (M18 ++ [AObj.cells (nd'.v ka' kc') 5 .live])[x1]?) := fun hx => hK32.same hx
  have hNd : NdR (M39 ++ [AObj.cells [.slice na nds.length nc, .slice da ds.length dc] 2 .live] ++ G) (nd' :: nds) (nd'.v ka' kc' ++ cs) := ⟨ka', kc', cs, rfl, f3.keep hK51, hU2.keep (hK40.trans (.app _ G))⟩
  have hSzA : ∀ n ∈ nd' :: nds, n.name.size ≤ 1000 ∧ n.arg.size ≤ 1000 ∧ n.kids.length ≤ 300000 := by
    intro n hn
    rcases List.mem_cons.1 hn with rfl | hn
    · exact ⟨by omega, by omega, by omega⟩
    · have := hUs.2.2 n hn; exact ⟨this.1, this.2.1, by omega⟩
  have hx51 : At (M39 ++ [AObj.cells [.slice na nds.length nc, .slice da ds.length dc] 2 .live] ++ G) x1 _ := (at_of hx3).keep (f2.trans hK51)
  have hn51 : At (M39 ++ [AObj.cells [.slice na nds.length nc, .slice da ds.length dc] 2 .live] ++ G) M.length _ := (at_of hn3).keep (f2.trans hK51)
  have hrT := (at_of (get_last M39 (AObj.cells [.slice na nds.length nc, .slice da ds.length dc] 2 .live))).rd k30 (o := 0) rfl
  have hN1 : 1 + nds.length = (nd' :: nds).length := by simp; omega
  have hNle : (nd' :: nds).length ≤ 1000000 := by have := hUs.1; simp; omega
  rw [hN1] at w3' w4
  generalize hAll : (nd' :: nds) = all at *
  generalize hM51 : M39 ++ [AObj.cells [.slice na nds.length nc, .slice da ds.length dc] 2 .live] ++ G = M51 at *
  refine ⟨_, hrx, _, hrx, _, t1, _, w1, _, _, _, _, _, _, _, (at_of hn3).rdA k24 s24, _, _, _, _, _, _, _, _, f1, _, _, _, _, At.rdA (At.keep (f2.one (AObj.cells (nd'.v ka' kc') 5 .live)) (at_of hx3)) k28 s28, _, _, _, g1, _, _, _, _, _, _, _, h1, _, _, _, _, _, _, _, h3, _, w2, ⟨⟨hcalm, trivial⟩, trivial⟩, _, _, _, hrT, _, _, _, _, w3', ?_⟩
  refine fun _ hT0 => lp_or (loop3_0 (LInv M51 all.length 0) (fun M' => Keep M51 M') (fun _ _ => False) ?l0 (n := all.length) (LInv.start M51 all.length 0) hT0) (fun M53 hK53 => ?_)
  case l0 =>
    rintro n t M' hI
    have hI0 := hI
    obtain ⟨k, rfl, hkn, hKM⟩ := hI
    rw [show (0 : Int) + (k : Int) = Int.ofNat k by simp] at *
    refine cnd_of (fun hlt => ?_) (fun _ => hKM)
    have hlt := leF_lt hlt
    obtain ⟨y, o, kka, kkc, e1, e2, e3, e4, e5⟩ := node_at (w4.keep hKM) (hNd.keep hKM) hlt rfl
    obtain ⟨z1, z2, z3⟩ := hSzA _ (List.getElem_mem hlt)
    generalize all[k] = n0 at *
    obtain ⟨v1, M13, r1, kk1, res1⟩ := kids_ret (i := n0.kind) (nm := n0.name) (ar := n0.arg) (a := kka) (n := n0.kids.length) (c := kkc) (pos := n0.pos) (short_of z1 (by decide)) (short_of z2 (by decide)) (by omega) M'
    obtain ⟨v2, M27, r2, kk2, res2⟩ := refKids_ret (i := n0.kind) (nm := n0.name) (ar := n0.arg) (a := kka) (n := n0.kids.length) (c := kkc) (pos := n0.pos) (short_of z1 (by decide)) (short_of z2 (by decide)) (by omega) M13
    obtain ⟨a1, c1, rfl, row1⟩ := res1.both
    obtain ⟨a2, c2, rfl, row2⟩ := res2.both
    have k27 := kk1.trans kk2
    have cell : ∀ (Mx : Mem), Keep M' Mx → ∀ j v, (n0.v kka kkc)[j]? = some v → cellAt Mx y (o + j) = some v := fun Mx hKx j v hj => hKx.cell (e3 j v hj)
    refine ⟨_, _, e1, _, _, _, _, _, _, _, e4, _, _, _, _, _, r1, _, _, e1, _, _, _, _, _, _, _, rdVar_keep e4 kk1, _, _, _, _, _, r2, _, neqB _ _ _, cnd_f ?_⟩
    refine cnd_f' (by rw [eqF_self]; rfl) ⟨_, _, e1, _, rd_of_cell k3 (cell M27 k27 0 _ rfl), _, _, word_ret _ _, _, _, e1, _, rd_of_cell k3 (cell M27 k27 0 _ rfl), _, _, refWord_ret _ _, cnd_f' (by rw [eqS_self]; rfl) ?_⟩
    refine ⟨_, _, e1, _, rd_of_cell k9 (cell M27 k27 1 _ rfl), _, _, nodeName_ret (short_of z1 (by decide)) _, _, _, e1, _, rd_of_cell k9 (cell M27 k27 1 _ rfl), _, _, refBind_ret (short_of z1 (by decide)) _, _, neqB _ _ _, cnd_f ?_⟩
    refine ⟨_, _, e1, _, rd_of_cell k9 (cell M27 k27 2 _ rfl), _, _, nodeName_ret (short_of z2 (by decide)) _, _, _, e1, _, rd_of_cell k9 (cell M27 k27 2 _ rfl), _, _, refBind_ret (short_of z2 (by decide)) _, _, neqB _ _ _, ⟨⟨fun _ => rfl, trivial⟩, ⟨fun _ => rfl, trivial⟩, ⟨fun _ => rfl, trivial⟩, trivial⟩, cnd_f ?_⟩
    have hsl := kidsS_len n0.kind n0.name n0.arg n0.kids.length
    generalize (kidsS n0.kind n0.name n0.arg n0.kids.length).getD [] = sl at *
    refine fun _ hT1 => lp_or (loop3_1 (fun n t Mx => ∃ j : Nat, t = Int.ofNat j ∧ j + n = sl.length ∧ Mx = M27) (fun Mx => Mx = M27) (fun _ _ => False) ?l1 (n := sl.length) ⟨0, rfl, by omega, rfl⟩ hT1) (fun Mx e => ?_)
    case l1 =>
      rintro n t Mx ⟨j, rfl, hj, rfl⟩
      refine cnd_of (fun hlt => ?_) (fun _ => rfl)
      have hlt := leF_lt hlt
      obtain ⟨y1, o1, u1, u2⟩ := ints_at (kk2.row row1) hlt (c := c1) rfl
      obtain ⟨y2, o2, u3, u4⟩ := ints_at row2 hlt (c := c2) rfl
      exact ⟨_, _, u1, _, u2, _, _, u3, _, u4, trivial, cnd_f' (by rw [eqF_self]; rfl) ⟨n - 1, by omega, j + 1, add64 (by omega), by omega, rfl⟩⟩
    · subst e
      have := LInv.next hI0 (M2 := Mx) (by omega) k27 hNle (by decide)
      exact this
  refine fun _ hT2 => lp_or (loop3_2 (LInv M53 38 (-1)) (fun M' => Keep M53 M') (fun _ _ => False) ?l2 (n := 38) (LInv.start M53 38 (-1)) hT2) (fun M55 hK55 => ?_)
  case l2 =>
    rintro n t M' hI
    have hI0 := hI
    obtain ⟨k, rfl, hkn, hKM⟩ := hI
    refine cnd_of (fun hlt => ?_) (fun _ => hKM)
    have hlt : -1 + (k : Int) ≤ 36 := leF_t.1 hlt
    refine fun _ hT3 => lp_or (loop3_3 (LInv M' 8 (-1)) (fun Mx => Keep M' Mx) (fun _ _ => False) ?l3 (n := 8) (LInv.start M' 8 (-1)) hT3) (fun Mx hKx => ?_)
    case l3 =>
      rintro n t Mx hJ
      have hJ0 := hJ
      obtain ⟨j, rfl, hjn, hKj⟩ := hJ
      refine cnd_of (fun hlt2 => ?_) (fun _ => hKj)
      have hlt2 : -1 + (j : Int) < 7 := by
        have : leF (Int.ofNat 7) (-1 + (j : Int)) = false := by simpa using hlt2
        exact leF_f.1 this
      exact ⟨_, _, is_ret _ _ _, _, _, refIs_ret _ _ _, _, neqB _ _ _, cnd_f (LInv.next hJ0 (by omega) (.refl _) (by decide) (by decide))⟩
    · exact ⟨_, _, word_ret _ _, _, _, refWord_ret _ _, cnd_f' (by rw [eqS_self]; rfl) (LInv.next hI0 (by omega) hKx (by decide) (by decide))⟩
  · have hx55 := hx51.keep (hK53.trans hK55)
    have hn55 := hn51.keep (hK53.trans hK55)
    exact ⟨_, hx55.rd k9 (o := 3) rfl, _, _, nodeName_ret (short_of t2 (by decide)) _, _, hx55.rd k9 (o := 3) rfl, _, _, refBind_ret (short_of t2 (by decide)) _, _, eqlB _ _ _, cnd_t ⟨_, hn55.rd k3 (o := 0) rfl, _, hn55.rd k3 (o := 4) rfl, _, _, is_ret _ _ _, _, hn55.rd k3 (o := 0) rfl, _, hn55.rd k3 (o := 4) rfl, _, _, refIs_ret _ _ _, _, eqlB _ _ _, cnd_t ⟨_, _, works_ret _, ⟨⟨fun _ => rfl, trivial⟩, ⟨fun _ => rfl, trivial⟩, ⟨fun _ => rfl, trivial⟩, trivial⟩, rfl⟩⟩⟩

end Go.Proofs.YtabkcbaknjenmaaAM

/-
  THE NODE LAWS: what a law is given, as it lies in memory; that it reads as it did behind the call.
-/
set_option linter.unusedVariables false
set_option linter.unusedSimpArgs false
namespace Go.Proofs.YtabkcbaknjenmaaAM
open Go Go.Proofs Go.ChangeShapes Go.WideShapes Go.RowKit
set_option maxRecDepth 100000
set_option maxHeartbeats 4000000

/-- A call that answers something plain, and writes nothing that was: the world is as it was, and maybe more. -/
theorem calls_same {P : Program} {f : FuncId} {args : List Value} {M M' : Mem} {v : Value} (h : Ret P f args M v M') {ρ : Rho} {w : World} {argsC : Array Value} (hR : Rel ρ M w) (ha : LRel ρ args argsC.toList) (hn : ∀ k, ¬ Wb ρ M k) (hv : plain1 v = true) :
    Calls P f argsC w fun e w' => e = .returned v ∧ Grown w w' ∧ ∀ k, k < w.heap.size → w'.heap[k]? = w.heap[k]? := by
  intro cs
  obtain ⟨ρ', w', fr, h1, h2, h3, h4, h5, h6, h7, fn, v', h8, h9, h10⟩ := h ρ w argsC (fun _ => cs) hR ha (fun _ => rfl)
  have hvv := plain1_eq hv h10
  subst hvv
  exact ⟨.returned v', w', fr, ⟨rfl, grown_of_ext h1 hn, fun k hk => h1.kept k hk (hn k)⟩, h2, h3, h7, h4, h5, fn, by rw [h3]; exact h8, h9⟩
theorem same_of_block {W W' : World} (h : ∀ k, k < W.heap.size → W'.heap[k]? = W.heap[k]?) {p : MemPlace} (hp : p.block < W.heap.size) : W.sameAt W' p := by
  cases p with
  | cell b o => exact World.cell?_of_block (w := W) (h b hp)
  | map b => exact h b hp

section
variable {H : Type} {enc : TypeId × Value → H} {P : Program} {w : World} {T : TypeId → Prop}
theorem trodAll_stays {w' : World} (K : Kids P T) (hsz : ∀ {t e : TypeId}, T t → P.underlying t = some (.slice e) → 0 < P.cellsOf e) {sp : Nat → Bool} : ∀ {ts : List TypeId} {vs : List Value} {ds : List (DataW H)} {ps : List MemPlace}, (∀ t ∈ ts, T t) → DataW.TrodAll enc P w 0 (fun _ => true) true ts vs ds ps →
    (∀ p ∈ ps, w.sameAt w' p) → (∀ p ∈ ps, sp p.block = true) → DataW.TrodAll enc P w' 0 sp true ts vs ds ps
  | [], [], [], _, _, h, _, _ => h
  | t :: ts, v :: vs, d :: ds, _, hT, ⟨p, q, ⟨n, h1⟩, h2, e⟩, hs, hp => by
    subst e
    exact ⟨p, q, ⟨n, DataW.trod_stays K hsz (fun e => by simp at e) (hT t (by simp)) h1 (fun x hx => hs x (by simp [hx])) (fun x hx => hp x (by simp [hx]))⟩, trodAll_stays K hsz (fun t ht => hT t (by simp [ht])) h2 (fun x hx => hs x (by simp [hx])) (fun x hx => hp x (by simp [hx])), rfl⟩
end

/-! ### Rows of the world as objects that are only read -/
/-- A row: where it lies, if anywhere, and its cells. -/
structure ARow where
  at_ : Option (Nat × Nat)
  vs : List Value
def rowsMem (rs : List ARow) : Mem := rs.map fun r => .cells r.vs 1 .ro
def rowsRho (rs : List ARow) : Rho := fun x => (rs[x]?).bind fun r => r.at_.map fun p => ⟨p.1, p.2, r.vs.length, 1⟩
def ARow.Ok (w : World) (r : ARow) : Prop := r.vs.all plain1 = true ∧ ∀ p, r.at_ = some p → ∃ cs el fr, w.heap[p.1]? = some (.cells cs el fr) ∧ p.2 + r.vs.length ≤ cs.size ∧ ∀ i v, r.vs[i]? = some v → cs[p.2 + i]? = some v
theorem rowsRho_some {rs : List ARow} {x : Nat} {p : Place} (h : rowsRho rs x = some p) : ∃ r q, rs[x]? = some r ∧ r.at_ = some q ∧ p = ⟨q.1, q.2, r.vs.length, 1⟩ := by
  unfold rowsRho at h
  cases hr : rs[x]? with
  | none => rw [hr] at h; simp at h
  | some r =>
    rw [hr] at h
    cases ha : r.at_ with
    | none => simp [ha] at h
    | some q => simp [ha] at h; exact ⟨r, q, rfl, ha, h.symm⟩
theorem rows_rel {w : World} {rs : List ARow} (h : ∀ r ∈ rs, r.Ok w) : Rel (rowsRho rs) (rowsMem rs) w := by
  refine ⟨fun x p hx => ?_, fun x p hx => ?_, fun x y p q o o' hx hy hne ho ho' hw ha => ?_⟩
  · obtain ⟨r, q, h1, h2, rfl⟩ := rowsRho_some hx
    obtain ⟨hp, hq⟩ := h r (List.mem_of_getElem? h1)
    obtain ⟨cs, el, fr, g1, g2, g3⟩ := hq q h2
    refine ⟨.cells r.vs 1 .ro, by simp [rowsMem, h1], .inr ⟨cs, el, fr, g1, rfl, g2, Nat.le_refl _, fun i v hi => ⟨v, g3 i v hi, plain1_refl _ (List.all_eq_true.1 hp v (List.mem_of_getElem? hi))⟩, fun e => by simp at e⟩⟩
  · obtain ⟨r, q, h1, h2, rfl⟩ := rowsRho_some hx
    obtain ⟨cs, el, fr, g1, g2, g3⟩ := (h r (List.mem_of_getElem? h1)).2 q h2
    exact (Array.getElem?_eq_some_iff.1 g1).1
  · simp only [rowsMem, List.getElem?_map] at ho
    cases hr : rs[x]? with
    | none => rw [hr] at ho; simp at ho
    | some r => rw [hr] at ho; simp at ho; subst ho; simp [AObj.writable] at hw
theorem rows_wb {rs : List ARow} (k : Nat) : ¬ Wb (rowsRho rs) (rowsMem rs) k := by
  rintro ⟨x, p, o, e, ho, hw, _⟩
  simp only [rowsMem, List.getElem?_map] at ho
  cases hr : rs[x]? with
  | none => rw [hr] at ho; simp at ho
  | some r => rw [hr] at ho; simp at ho; subst ho; simp [AObj.writable] at hw

/-- A slice of numbers that is given: its row, and how it stands in memory as object j. -/
theorem slice_in {H : Type} {enc : TypeId × Value → H} {P : Program} {w : World} {t e : TypeId} {k : IntKind} (ht : P.underlying t = some (.slice e)) (he : P.underlying e = some (.int k)) (hc : P.cellsOf e = 1) {fuel b0 : Nat} {v : Value} {x : DataW H × List MemPlace}
    (hok : Cell.okWide P w .any b0 t v) (h : DataW.trod enc P w 0 (fun _ => true) true fuel t [v] = some x) :
    ∃ (r : ARow) (zs : List Int) (n c : Nat), r.Ok w ∧ zs.length = n ∧ (∀ z ∈ zs, (Lit.int k z).wf = true) ∧ ∀ (rs : List ARow) (j : Nat), rs[j]? = some r → ∃ a, VRel (rowsRho rs) (.slice a n c) v ∧ Given (rowsMem rs) 1 a n c (zs.map (.int k)) := by
  rcases open_ints ht he hc h with ⟨hcs, _⟩ | ⟨a, len, cap, zs, hcs, _, hlc, hcm, hzl, _, hcell, hwf⟩
  · injection hcs with hv _
    subst hv
    exact ⟨⟨none, []⟩, [], 0, 0, ⟨rfl, fun p hp => by simp at hp⟩, rfl, by simp, fun rs j hj => ⟨none, .sliN, ⟨by simp, .inl ⟨rfl, rfl, rfl⟩⟩, .inl ⟨rfl, rfl, rfl⟩⟩⟩
  · injection hcs with hv _
    subst hv
    simp only [if_true] at hzl
    simp only [Cell.okWide, ht, Cell.ok] at hok
    obtain ⟨_, _, _, hspot, row, cells, hshape, _⟩ := hok
    obtain ⟨b, o, sp⟩ := a
    simp only at hspot hshape
    subst hspot
    obtain ⟨cs, el, fr, hheap⟩ : ∃ cs el fr, w.heap[b]? = some (.cells cs el fr) := by
      unfold World.shape? at hshape
      split at hshape
      · rename_i c el fr hh; exact ⟨c, el, fr, hh⟩
      · simp at hshape
    have hcell' : ∀ i, i < zs.length → cs[o + i]? = some (.int k (zs.getD i 0)) := by
      intro i hi
      have := hcell i hi
      rw [add_plain] at this
      simpa [World.cell?, hheap] using this
    have hmx : maxLen < 9223372036854775808 := by decide
    by_cases hcap : cap = 0
    · subst hcap
      have hz0 : zs = [] := List.eq_nil_of_length_eq_zero hzl
      subst hz0
      have hl0 : len = 0 := by omega
      subst hl0
      refine ⟨⟨some (b, 0), []⟩, [], 0, 0, ⟨rfl, fun p hp => ?_⟩, rfl, by simp, fun rs j hj => ⟨some ⟨j, 0, none⟩, ?_, ⟨by simp, .inr ⟨j, 0, [], 1, .ro, rfl, by simp [rowsMem, hj], by decide, rfl, by simp⟩⟩, .inr ⟨Nat.le_refl _, by decide⟩⟩⟩
      · simp at hp; subst hp
        exact ⟨cs, el, fr, hheap, by simp, by simp⟩
      · exact .sli (p := ⟨b, 0, 0, 1⟩) (by simp [rowsRho, hj]) (.inl ⟨by decide, rfl, by omega⟩)
    · have hlast := hcell' (cap - 1) (by omega)
      have hsz := (Array.getElem?_eq_some_iff.1 hlast).1
      refine ⟨⟨some (b, o), zs.map (.int k)⟩, zs.take len, len, cap, ⟨?_, fun p hp => ?_⟩, by simp; omega, fun z hz => hwf z (List.mem_of_mem_take hz), fun rs j hj => ⟨some ⟨j, 0, none⟩, ?_, ⟨by simp; omega, .inr ⟨j, 0, zs.map (.int k), 1, .ro, rfl, by simp [rowsMem, hj], by decide, by simp [List.map_take], by simp; omega⟩⟩, .inr ⟨hlc, by omega⟩⟩⟩
      · rw [List.all_eq_true]; intro v hv
        simp only [List.mem_map] at hv
        obtain ⟨z, _, rfl⟩ := hv; rfl
      · simp at hp; subst hp
        refine ⟨cs, el, fr, hheap, by simp; omega, fun i v hi => ?_⟩
        rw [List.getElem?_map] at hi
        cases hz : zs[i]? with
        | none => rw [hz] at hi; simp at hi
        | some z =>
          rw [hz] at hi; simp at hi; subst hi
          have hlt := (List.getElem?_eq_some_iff.1 hz).1
          have := hcell' i hlt
          rw [List.getD_eq_getElem?_getD, hz] at this
          simpa using this
      · exact .sli (p := ⟨b, o, (zs.map (Value.int k)).length, 1⟩) (by simp [rowsRho, hj]) (.inl ⟨by have : capU = 9223372036854775808 := rfl; omega, rfl, fun _ => rfl⟩)

end Go.Proofs.YtabkcbaknjenmaaAM
