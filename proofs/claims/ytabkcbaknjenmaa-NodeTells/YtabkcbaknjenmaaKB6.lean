/-
  Part KB6 of the proof: merged texts.
-/
import Derived.Test.YtabkcbaknjenmaaKA3
import Derived.Test.YtabkcbaknjenmaaRows
import Derived.Test.YtabkcbaknjenmaaKB5

/-
  THE NODE LAWS: what is to be shown for functions, printed by a program: copies and turns
-/
set_option linter.unusedVariables false
namespace Go.Proofs.YtabkcbaknjenmaaAM
open Go Go.Proofs
set_option maxRecDepth 100000
set_option maxHeartbeats 4000000
def ann24 : Ann := [([1, 1, 0, 1, 0], [1, 2, 3, 4], [(some 0, [])])]
theorem w24 {p00 : Option Addr} {p00n p00c : Nat} {p01 : Option Addr} {p01n p01c : Nat} {M : Mem} {K : Value → Mem → Prop} (h : ∃ (a0 : Option Addr),
 ∃ (n1 : Nat),
 ∃ (n2 : Nat),
 rdVar Try.prog
 (M ++ [AObj.cells [.slice p00 p00n p00c, .slice p01 p01n p01c] 2 Mode.live] ++ [AObj.cells [.slice none 0 0, .slice none 0 0] 2 Mode.live] ++
 [AObj.cells [] 1 Mode.live])
 22 (List.length M) 1 =
 some (Value.slice a0 n1 n2) ∧
 ∃ (a3 : Option Addr),
 ∃ (n4 : Nat),
 ∃ (n5 : Nat),
 ∃ (M6 : Mem),
 appendA Try.prog
 (M ++ [AObj.cells [.slice p00 p00n p00c, .slice p01 p01n p01c] 2 Mode.live] ++ [AObj.cells [.slice none 0 0, .slice none 0 0] 2 Mode.live] ++
 [AObj.cells [] 1 Mode.live])
 22 22
 (.slice
 (some
 (.mk
 (List.length
 (M ++ [AObj.cells [.slice p00 p00n p00c, .slice p01 p01n p01c] 2 Mode.live] ++ [AObj.cells [.slice none 0 0, .slice none 0 0] 2 Mode.live]))
 0 none))
 0 0)
 (.slice a0 n1 n2) =
 some (Value.slice a3 n4 n5, M6) ∧
 ∃ (M7 : Mem),
 wrCells (M6 ++ [AObj.cells [.slice none 0 0, .slice none 0 0] 2 Mode.live]) (List.length M6) 0 [.slice none 0 0, .slice a3 n4 n5] = some M7 ∧
 ∀ (t8 : List Value),
 TIn 35
 [(1, .pointer (some (.mk (List.length M) 0 none))),
 (2, .pointer (some (.mk (List.length (M ++ [AObj.cells [.slice p00 p00n p00c, .slice p01 p01n p01c] 2 Mode.live])) 0 none))),
 (3, .pointer (some (.mk (List.length M6) 0 none))), (4, .int .i64 (Int.ofNat 0))]
 t8 →
 ∃ (M9 : Mem),
 LpT Try.prog (Env.fn 24) [1, 1, 0, 1, 0] t8 [] M7 false (.exit 0) [] M9 ∧
 ∀ (w10 : Nat → Value),
 ∃ (a11 : Option Addr),
 ∃ (n12 : Nat),
 ∃ (n13 : Nat),
 ∃ (a14 : Option Addr),
 ∃ (n15 : Nat),
 ∃ (n16 : Nat),
 rdVar Try.prog M9 32 (List.length M6) 0 = some (.agg (Array.mk [.slice a11 n12 n13, .slice a14 n15 n16])) ∧
 ∃ (M17 : Mem),
 wrCells M9 (List.length (M ++ [AObj.cells [.slice p00 p00n p00c, .slice p01 p01n p01c] 2 Mode.live])) 0
 [.slice a11 n12 n13, .slice a14 n15 n16] =
 some M17 ∧
 ∃ (a18 : Option Addr),
 ∃ (n19 : Nat),
 ∃ (n20 : Nat),
 ∃ (a21 : Option Addr),
 ∃ (n22 : Nat),
 ∃ (n23 : Nat),
 rdVar Try.prog M17 32 (List.length (M ++ [AObj.cells [.slice p00 p00n p00c, .slice p01 p01n p01c] 2 Mode.live])) 0 =
 some (Value.agg (Array.mk [.slice a18 n19 n20, .slice a21 n22 n23])) ∧
 K (.agg (Array.mk [.slice a18 n19 n20, .slice a21 n22 n23])) M17) :
 Held (wpRet Try.prog 24 true ann24 [.agg (Array.mk [.slice p00 p00n p00c, .slice p01 p01n p01c])] M K) := held_of (by kernel_rfl) h
theorem loop24_0 {ut1 ut1o ut2 ut2o ut3 ut3o : Nat} {d : List ADef} {rc : Bool} (Inv : Nat → Int → Mem → Prop) (R0 : Mem → Prop)
 (step : ∀ (n : Nat) (t4 : Int) (M : Mem), Inv n t4 M →
 ∃ (a0 : Option Addr),
 ∃ (n1 : Nat),
 ∃ (n2 : Nat),
 rdVar Try.prog M 30 ut1 ut1o = some (.slice a0 n1 n2) ∧
 cnd (!leF (Int.ofNat n1) t4)
 (∃ (a3 : Option Addr),
 ∃ (n4 : Nat),
 ∃ (n5 : Nat),
 rdVar Try.prog M 30 ut1 ut1o = some (.slice a3 n4 n5) ∧
 ∃ (n6 : Nat),
 ∃ (n7 : Nat),
 idxA Try.prog 30 (.slice a3 n4 n5) (.int .i64 t4) = some (.pointer (some (.mk n6 n7 none))) ∧
 ∃ (i8 : Int),
 ∃ (s9 : ByteArray),
 ∃ (s10 : ByteArray),
 ∃ (a11 : Option Addr),
 ∃ (n12 : Nat),
 ∃ (n13 : Nat),
 ∃ (i14 : Int),
 rdVar Try.prog M 24 n6 n7 =
 some (Value.agg (Array.mk [.int .i64 i8, .string s9, .string s10, .slice a11 n12 n13, .int .i64 i14])) ∧
 ∃ (M15 : Mem),
 wrCells
 (M ++
 [AObj.cells
 [.int .i64 (Int.ofNat 0), .string (ByteArray.mk #[]), .string (ByteArray.mk #[]), .slice none 0 0,
 .int .i64 (Int.ofNat 0)]
 5 Mode.live])
 (List.length M) 0 [.int .i64 i8, .string s9, .string s10, .slice a11 n12 n13, .int .i64 i14] =
 some M15 ∧
 ∃ (a16 : Option Addr),
 ∃ (n17 : Nat),
 ∃ (n18 : Nat),
 rdVar Try.prog (M15 ++ [AObj.cells [] 1 Mode.live]) 22 (List.length M) 3 = some (.slice a16 n17 n18) ∧
 ∃ (a19 : Option Addr),
 ∃ (n20 : Nat),
 ∃ (n21 : Nat),
 ∃ (M22 : Mem),
 appendA Try.prog (M15 ++ [AObj.cells [] 1 Mode.live]) 22 22 (.slice (some (.mk (List.length M15) 0 none)) 0 0)
 (.slice a16 n17 n18) =
 some (Value.slice a19 n20 n21, M22) ∧
 ∃ (M23 : Mem),
 wrCells M22 (List.length M) 3 [.slice a19 n20 n21] = some M23 ∧
 ∃ (a24 : Option Addr),
 ∃ (n25 : Nat),
 ∃ (n26 : Nat),
 rdVar Try.prog M23 30 ut3 ut3o = some (.slice a24 n25 n26) ∧
 ∃ (i27 : Int),
 ∃ (s28 : ByteArray),
 ∃ (s29 : ByteArray),
 ∃ (a30 : Option Addr),
 ∃ (n31 : Nat),
 ∃ (n32 : Nat),
 ∃ (i33 : Int),
 rdVar Try.prog M23 24 (List.length M) 0 =
 some
 (.agg
 (Array.mk
 [.int .i64 i27, .string s28, .string s29, .slice a30 n31 n32,
 .int .i64 i33])) ∧
 ∃ (a34 : Option Addr),
 ∃ (n35 : Nat),
 ∃ (n36 : Nat),
 ∃ (M37 : Mem),
 appendA Try.prog
 (M23 ++
 [AObj.cells
 [.int .i64 i27, .string s28, .string s29,
 .slice a30 n31 n32, .int .i64 i33]
 5 Mode.live])
 30 30 (.slice a24 n25 n26)
 (.slice (some (.mk (List.length M23) 0 none)) 1 1) =
 some (Value.slice a34 n35 n36, M37) ∧
 ∃ (M38 : Mem),
 wrCells M37 ut3 ut3o [.slice a34 n35 n36] = some M38 ∧
 ∃ (n39 : Nat), n39 < n ∧ Inv n39 (wrapF .i64 (Int.add t4 (Int.ofNat 1))) M38)
 (R0 M) )
 {n : Nat} {t4 : Int} {M : Mem} (h0 : Inv n t4 M) {t0 : List Value} (hT : TIn 35 [(1, .pointer (some (.mk ut1 ut1o none))), (2, .pointer (some (.mk ut2 ut2o none))), (3, .pointer (some (.mk ut3 ut3o none))), (4, .int .i64 t4)] t0) :
 (∃ (M' : Mem), LpT Try.prog (Env.fn 24) [1, 1, 0, 1, 0] t0 d M rc (.exit 0) [] M' ∧ R0 M') := by
 rcases loopT (P := Try.prog) (E := (Env.fn 24)) (sym := true) (ann := ann24) (p := [1, 1, 0, 1, 0]) (stepC (codeOf Try.prog 24 [1, 1, 0, 1, 0]) 0) (by kernel_rfl) (by kernel_rfl) [(1, .pointer (some (.mk ut1 ut1o none))), (2, .pointer (some (.mk ut2 ut2o none))), (3, .pointer (some (.mk ut3 ut3o none)))] [4] (by kernel_rfl) (fun n xs M => match xs with | [.int .i64 t4] => Inv n t4 M | _ => False) [((.exit 0), [], fun xs M => match xs with | [] => R0 M | _ => False)] (fun n xs M h uu => by split at h <;> first | exact h.elim | exact (held_of (by kernel_rfl) (step n _ M h)).ok) (xs := [.int .i64 t4]) hT rfl h0 with ⟨_, _, h, g⟩
 · split at g <;> first | exact ⟨_, h, g⟩ | exact g.elim

theorem w10 {p00 p01 p02 : Int} {p03 : ByteArray} {p10 : Option Addr} {p10n p10c : Nat} {p11 : Option Addr} {p11n p11c : Nat} {M : Mem} {K : Value → Mem → Prop} (h : ∃ (a0 : Option Addr),
 ∃ (n1 : Nat),
 ∃ (n2 : Nat),
 ∃ (a3 : Option Addr),
 ∃ (n4 : Nat),
 ∃ (n5 : Nat),
 rdVar Try.prog
 (M ++ [AObj.cells [.int .u8 p00, .int .u8 p01, .int .i16 p02, .string p03] 4 Mode.live] ++
 [AObj.cells [.slice p10 p10n p10c, .slice p11 p11n p11c] 2 Mode.live] ++
 [AObj.cells [.slice none 0 0, .slice none 0 0] 2 Mode.live])
 32 (List.length (M ++ [AObj.cells [.int .u8 p00, .int .u8 p01, .int .i16 p02, .string p03] 4 Mode.live])) 0 =
 some (Value.agg (Array.mk [.slice a0 n1 n2, .slice a3 n4 n5])) ∧
 ∃ (a6 : Option Addr),
 ∃ (n7 : Nat),
 ∃ (n8 : Nat),
 ∃ (a9 : Option Addr),
 ∃ (n10 : Nat),
 ∃ (n11 : Nat),
 ∃ (M12 : Mem),
 Ret Try.prog 24 [.agg (Array.mk [.slice a0 n1 n2, .slice a3 n4 n5])]
 (M ++ [AObj.cells [.int .u8 p00, .int .u8 p01, .int .i16 p02, .string p03] 4 Mode.live] ++
 [AObj.cells [.slice p10 p10n p10c, .slice p11 p11n p11c] 2 Mode.live] ++
 [AObj.cells [.slice none 0 0, .slice none 0 0] 2 Mode.live])
 (.agg (Array.mk [.slice a6 n7 n8, .slice a9 n10 n11])) M12 ∧
 ∃ (M13 : Mem),
 wrCells M12 (List.length (M ++ [AObj.cells [.int .u8 p00, .int .u8 p01, .int .i16 p02, .string p03] 4 Mode.live])) 0
 [.slice a6 n7 n8, .slice a9 n10 n11] =
 some M13 ∧
 ∃ (a14 : Option Addr),
 ∃ (n15 : Nat),
 ∃ (n16 : Nat),
 rdVar Try.prog M13 30
 (List.length (M ++ [AObj.cells [.int .u8 p00, .int .u8 p01, .int .i16 p02, .string p03] 4 Mode.live]))
 0 =
 some (Value.slice a14 n15 n16) ∧
 cnd (eqF (Int.ofNat n15) (Int.ofNat 0))
 (∃ (a17 : Option Addr),
 ∃ (n18 : Nat),
 ∃ (n19 : Nat),
 ∃ (a20 : Option Addr),
 ∃ (n21 : Nat),
 ∃ (n22 : Nat),
 rdVar Try.prog M13 32
 (List.length
 (M ++
 [AObj.cells [.int .u8 p00, .int .u8 p01, .int .i16 p02, .string p03] 4 Mode.live]))
 0 =
 some (Value.agg (Array.mk [.slice a17 n18 n19, .slice a20 n21 n22])) ∧
 ∃ (M23 : Mem),
 wrCells M13
 (List.length
 (M ++
 [AObj.cells [.int .u8 p00, .int .u8 p01, .int .i16 p02, .string p03] 4
 Mode.live] ++
 [AObj.cells [.slice p10 p10n p10c, .slice p11 p11n p11c] 2 Mode.live]))
 0 [.slice a17 n18 n19, .slice a20 n21 n22] =
 some M23 ∧
 ∃ (a24 : Option Addr),
 ∃ (n25 : Nat),
 ∃ (n26 : Nat),
 ∃ (a27 : Option Addr),
 ∃ (n28 : Nat),
 ∃ (n29 : Nat),
 rdVar Try.prog M23 32
 (List.length
 (M ++
 [AObj.cells
 [.int .u8 p00, .int .u8 p01, .int .i16 p02, .string p03] 4
 Mode.live] ++
 [AObj.cells [.slice p10 p10n p10c, .slice p11 p11n p11c] 2 Mode.live]))
 0 =
 some (Value.agg (Array.mk [.slice a24 n25 n26, .slice a27 n28 n29])) ∧
 K (.agg (Array.mk [.slice a24 n25 n26, .slice a27 n28 n29])) M23)
 (∃ (i30 : Int),
 rdVar Try.prog M13 5 (List.length M) 1 = some (.int .u8 i30) ∧
 ∃ (a31 : Option Addr),
 ∃ (n32 : Nat),
 ∃ (n33 : Nat),
 rdVar Try.prog M13 30
 (List.length
 (M ++
 [AObj.cells [.int .u8 p00, .int .u8 p01, .int .i16 p02, .string p03] 4 Mode.live]))
 0 =
 some (Value.slice a31 n32 n33) ∧
 ∃ (i34 : Int),
 binA Try.prog BinOp.rem 3 (Operand.tmp 17) (Operand.tmp 20) (.int .i64 (IntKind.wrap .i64 i30))
 (.int .i64 (Int.ofNat n32)) =
 some (Value.int .i64 i34) ∧
 ∃ (a35 : Option Addr),
 ∃ (n36 : Nat),
 ∃ (n37 : Nat),
 rdVar Try.prog M13 30
 (List.length
 (M ++
 [AObj.cells [.int .u8 p00, .int .u8 p01, .int .i16 p02, .string p03] 4
 Mode.live]))
 0 =
 some (Value.slice a35 n36 n37) ∧
 ∃ (n38 : Nat),
 ∃ (n39 : Nat),
 idxA Try.prog 30 (.slice a35 n36 n37) (.int .i64 i34) =
 some (.pointer (some (.mk n38 n39 none))) ∧
 ∃ (a40 : Option Addr),
 ∃ (n41 : Nat),
 ∃ (n42 : Nat),
 rdVar Try.prog M13 22 n38 (Nat.succ (Nat.succ (Nat.succ n39))) = some (.slice a40 n41 n42) ∧
 cnd (!leF (Int.ofNat n41) (Int.ofNat 0))
 (∃ (i43 : Int),
 rdVar Try.prog M13 26 (List.length M) 2 = some (.int .i16 i43) ∧
 ∃ (a44 : Option Addr),
 ∃ (n45 : Nat),
 ∃ (n46 : Nat),
 rdVar Try.prog M13 22 n38 (Nat.succ (Nat.succ (Nat.succ n39))) =
 some (Value.slice a44 n45 n46) ∧
 ∃ (i47 : Int),
 binA Try.prog BinOp.rem 3 (Operand.tmp 35) (Operand.tmp 40)
 (.int .i64 (IntKind.wrap .i64 (IntKind.wrap .u16 i43)))
 (.int .i64 (Int.ofNat n45)) =
 some (Value.int .i64 i47) ∧
 True ∧
 ∃ (i48 : Int),
 rdVar Try.prog M13 5 (List.length M) 0 = some (.int .u8 i48) ∧
 ∃ (i49 : Int),
 binA Try.prog BinOp.rem 5 (Operand.tmp 43)
 (Operand.const (.int .u8 (Int.ofNat 14)))
 (.int .u8 i48) (.int .u8 (Int.ofNat 14)) =
 some (Value.int .u8 i49) ∧
 cnd (eqF i49 (Int.ofNat 0))
 (∃ (i50 : Int),
 rdVar Try.prog M13 26 (List.length M) 2 = some (.int .i16 i50) ∧
 ∃ (i51 : Int),
 binA Try.prog BinOp.rem 26 (Operand.tmp 49)
 (Operand.const (.int .i16 (Int.ofNat 40)))
 (.int .i16 i50)
 (.int .i16 (Int.ofNat 40)) =
 some (Value.int .i16 i51) ∧
 ∃ (M52 : Mem),
 wrCells M13 n38 n39
 [.int .i64 (IntKind.wrap .i64 i51)] =
 some M52 ∧
 ∃ (a53 : Option Addr),
 ∃ (n54 : Nat),
 ∃ (n55 : Nat),
 ∃ (a56 : Option Addr),
 ∃ (n57 : Nat),
 ∃ (n58 : Nat),
 rdVar Try.prog M52 32
 (List.length
 (M ++
 [AObj.cells
 [.int .u8 p00,
 .int .u8 p01,
 .int .i16 p02,
 .string p03]
 4 Mode.live]))
 0 =
 some
 (.agg
 (Array.mk
 [.slice a53 n54 n55,
 .slice a56 n57 n58])) ∧
 ∃ (M59 : Mem),
 wrCells M52
 (List.length
 (M ++
 [AObj.cells
 [.int .u8 p00,
 .int .u8 p01,
 .int .i16 p02,
 .string p03]
 4 Mode.live] ++
 [AObj.cells
 [.slice p10 p10n p10c,
 .slice p11 p11n p11c]
 2 Mode.live]))
 0
 [.slice a53 n54 n55,
 .slice a56 n57 n58] =
 some M59 ∧
 ∃ (a60 : Option Addr),
 ∃ (n61 : Nat),
 ∃ (n62 : Nat),
 ∃ (a63 : Option Addr),
 ∃ (n64 : Nat),
 ∃ (n65 : Nat),
 rdVar Try.prog M59 32
 (List.length
 (M ++
 [AObj.cells
 [.int
 .u8 p00,
 .int
 .u8 p01,
 .int
 .i16 p02,
 .string p03]
 4 Mode.live] ++
 [AObj.cells
 [.slice p10 p10n
 p10c,
 .slice p11 p11n
 p11c]
 2 Mode.live]))
 0 =
 some
 (.agg
 (Array.mk
 [.slice a60 n61 n62,
 .slice a63 n64
 n65])) ∧
 K
 (.agg
 (Array.mk
 [.slice a60 n61 n62,
 .slice a63 n64 n65]))
 M59)
 (cnd (eqF i49 (Int.ofNat 1))
 (∃ (s66 : ByteArray),
 rdVar Try.prog M13 9 (List.length M) 3 = some (.string s66) ∧
 ∃ (M67 : Mem),
 wrCells M13 n38 (Nat.succ n39) [.string s66] = some M67 ∧
 ∃ (a68 : Option Addr),
 ∃ (n69 : Nat),
 ∃ (n70 : Nat),
 ∃ (a71 : Option Addr),
 ∃ (n72 : Nat),
 ∃ (n73 : Nat),
 rdVar Try.prog M67 32
 (List.length
 (M ++
 [AObj.cells
 [.int .u8 p00,
 .int .u8 p01,
 .int .i16 p02,
 .string p03]
 4 Mode.live]))
 0 =
 some
 (.agg
 (Array.mk
 [.slice a68 n69 n70,
 .slice a71 n72 n73])) ∧
 ∃ (M74 : Mem),
 wrCells M67
 (List.length
 (M ++
 [AObj.cells
 [.int .u8 p00,
 .int .u8 p01,
 .int .i16 p02,
 .string p03]
 4 Mode.live] ++
 [AObj.cells
 [.slice p10 p10n p10c,
 .slice p11 p11n p11c]
 2 Mode.live]))
 0
 [.slice a68 n69 n70,
 .slice a71 n72 n73] =
 some M74 ∧
 ∃ (a75 : Option Addr),
 ∃ (n76 : Nat),
 ∃ (n77 : Nat),
 ∃ (a78 : Option Addr),
 ∃ (n79 : Nat),
 ∃ (n80 : Nat),
 rdVar Try.prog M74 32
 (List.length
 (M ++
 [AObj.cells
 [.int .u8
 p00,
 .int .u8
 p01,
 .int
 .i16 p02,
 .string p03]
 4 Mode.live] ++
 [AObj.cells
 [.slice p10 p10n
 p10c,
 .slice p11 p11n
 p11c]
 2 Mode.live]))
 0 =
 some
 (.agg
 (Array.mk
 [.slice a75 n76 n77,
 .slice a78 n79
 n80])) ∧
 K
 (.agg
 (Array.mk
 [.slice a75 n76 n77,
 .slice a78 n79 n80]))
 M74)
 (cnd (eqF i49 (Int.ofNat 2))
 (∃ (s81 : ByteArray),
 rdVar Try.prog M13 9 (List.length M) 3 = some (.string s81) ∧
 ∃ (M82 : Mem),
 wrCells M13 n38 (Nat.succ (Nat.succ n39)) [.string s81] =
 some M82 ∧
 ∃ (a83 : Option Addr),
 ∃ (n84 : Nat),
 ∃ (n85 : Nat),
 ∃ (a86 : Option Addr),
 ∃ (n87 : Nat),
 ∃ (n88 : Nat),
 rdVar Try.prog M82 32
 (List.length
 (M ++
 [AObj.cells
 [.int .u8 p00,
 .int .u8 p01,
 .int .i16 p02,
 .string p03]
 4 Mode.live]))
 0 =
 some
 (.agg
 (Array.mk
 [.slice a83 n84 n85,
 .slice a86 n87 n88])) ∧
 ∃ (M89 : Mem),
 wrCells M82
 (List.length
 (M ++
 [AObj.cells
 [.int .u8 p00,
 .int .u8 p01,
 .int .i16 p02,
 .string p03]
 4 Mode.live] ++
 [AObj.cells
 [.slice p10 p10n p10c,
 .slice p11 p11n p11c]
 2 Mode.live]))
 0
 [.slice a83 n84 n85,
 .slice a86 n87 n88] =
 some M89 ∧
 ∃ (a90 : Option Addr),
 ∃ (n91 : Nat),
 ∃ (n92 : Nat),
 ∃ (a93 : Option Addr),
 ∃ (n94 : Nat),
 ∃ (n95 : Nat),
 rdVar Try.prog M89 32
 (List.length
 (M ++
 [AObj.cells
 [.int
 .u8 p00,
 .int
 .u8 p01,
 .int
 .i16 p02,
 .string p03]
 4 Mode.live] ++
 [AObj.cells
 [.slice p10 p10n
 p10c,
 .slice p11 p11n
 p11c]
 2 Mode.live]))
 0 =
 some
 (.agg
 (Array.mk
 [.slice a90 n91 n92,
 .slice a93 n94
 n95])) ∧
 K
 (.agg
 (Array.mk
 [.slice a90 n91 n92,
 .slice a93 n94 n95]))
 M89)
 (cnd (eqF i49 (Int.ofNat 3))
 (∃ (i96 : Int),
 rdVar Try.prog M13 26 (List.length M) 2 =
 some (Value.int .i16 i96) ∧
 ∃ (M97 : Mem),
 wrCells M13 n38 (Nat.succ (Nat.succ (Nat.succ (Nat.succ n39))))
 [.int .i64 (IntKind.wrap .i64 i96)] =
 some M97 ∧
 ∃ (a98 : Option Addr),
 ∃ (n99 : Nat),
 ∃ (n100 : Nat),
 ∃ (a101 : Option Addr),
 ∃ (n102 : Nat),
 ∃ (n103 : Nat),
 rdVar Try.prog M97 32
 (List.length
 (M ++
 [AObj.cells
 [.int .u8 p00,
 .int .u8 p01,
 .int .i16 p02,
 .string p03]
 4 Mode.live]))
 0 =
 some
 (.agg
 (Array.mk
 [.slice a98 n99 n100,
 .slice a101 n102 n103])) ∧
 ∃ (M104 : Mem),
 wrCells M97
 (List.length
 (M ++
 [AObj.cells
 [.int .u8 p00,
 .int .u8 p01,
 .int .i16 p02,
 .string p03]
 4 Mode.live] ++
 [AObj.cells
 [.slice p10 p10n p10c,
 .slice p11 p11n p11c]
 2 Mode.live]))
 0
 [.slice a98 n99 n100,
 .slice a101 n102 n103] =
 some M104 ∧
 ∃ (a105 : Option Addr),
 ∃ (n106 : Nat),
 ∃ (n107 : Nat),
 ∃ (a108 : Option Addr),
 ∃ (n109 : Nat),
 ∃ (n110 : Nat),
 rdVar Try.prog M104 32
 (List.length
 (M ++
 [AObj.cells
 [.int
 .u8
 p00,
 .int
 .u8
 p01,
 .int
 .i16
 p02,
 .string
 p03]
 4 Mode.live] ++
 [AObj.cells
 [.slice p10
 p10n p10c,
 .slice p11
 p11n p11c]
 2 Mode.live]))
 0 =
 some
 (.agg
 (Array.mk
 [.slice a105 n106
 n107,
 .slice a108 n109
 n110])) ∧
 K
 (.agg
 (Array.mk
 [.slice a105 n106
 n107,
 .slice a108 n109
 n110]))
 M104)
 (cnd (eqF i49 (Int.ofNat 4))
 (∃ (a111 : Option Addr),
 ∃ (n112 : Nat),
 ∃ (n113 : Nat),
 rdVar Try.prog M13 22 n38 (Nat.succ (Nat.succ (Nat.succ n39))) =
 some (Value.slice a111 n112 n113) ∧
 cnd (!leF (Int.ofNat n112) (Int.ofNat 0))
 (∃ (a114 : Option Addr),
 ∃ (n115 : Nat),
 ∃ (n116 : Nat),
 rdVar Try.prog M13 22 n38
 (Nat.succ (Nat.succ (Nat.succ n39))) =
 some (Value.slice a114 n115 n116) ∧
 ∃ (i117 : Int),
 rdVar Try.prog M13 26 (List.length M) 2 =
 some (Value.int .i16 i117) ∧
 ∃ (i118 : Int),
 binA Try.prog BinOp.rem 26 (Operand.tmp 90)
 (Operand.const
 (.int .i16
 (Int.ofNat 200)))
 (.int .i16 i117)
 (.int .i16
 (Int.ofNat 200)) =
 some (Value.int .i16 i118) ∧
 ∃ (n119 : Nat),
 ∃ (n120 : Nat),
 idxA Try.prog 22
 (.slice a114 n115 n116)
 (.int .i64 i47) =
 some
 (.pointer
 (some
 (.mk n119 n120 none))) ∧
 ∃ (M121 : Mem),
 wrCells M13 n119 n120
 [.int .i64
 (IntKind.wrap .i64
 i118)] =
 some M121 ∧
 True ∧
 ∃ (a122 : Option Addr),
 ∃ (n123 : Nat),
 ∃ (n124 : Nat),
 ∃ (a125 : Option Addr),
 ∃ (n126 : Nat),
 ∃ (n127 : Nat),
 rdVar Try.prog M121
 32
 (List.length
 (M ++
 [AObj.cells
 [.int
 .u8
 p00,
 .int
 .u8
 p01,
 .int
 .i16
 p02,
 .string
 p03]
 4
 Mode.live]))
 0 =
 some
 (.agg
 (Array.mk
 [.slice
 a122
 n123
 n124,
 .slice
 a125
 n126
 n127])) ∧
 ∃ (M128 : Mem),
 wrCells M121
 (List.length
 (M ++
 [AObj.cells
 [.int
 .u8
 p00,
 .int
 .u8
 p01,
 .int
 .i16
 p02,
 .string
 p03]
 4
 Mode.live] ++
 [AObj.cells
 [.slice
 p10
 p10n
 p10c,
 .slice
 p11
 p11n
 p11c]
 2
 Mode.live]))
 0
 [.slice
 a122
 n123
 n124,
 .slice
 a125
 n126
 n127] =
 some M128 ∧
 ∃ (a129 :
 Option
 Addr),
 ∃ (n130 :
 Nat),
 ∃ (n131 :
 Nat),
 ∃ (a132
 :
 Option
 Addr),
 ∃
 (n133
 :
 Nat),
 ∃
 (n134
 :
 Nat),
 rdVar
 Try.prog
 M128
 32
 (List.length
 (M ++
 [AObj.cells
 [.int
 .u8
 p00,
 .int
 .u8
 p01,
 .int
 .i16
 p02,
 .string
 p03]
 4
 Mode.live] ++
 [AObj.cells
 [.slice
 p10
 p10n
 p10c,
 .slice
 p11
 p11n
 p11c]
 2
 Mode.live]))
 0 =
 some
 (.agg
 (Array.mk
 [.slice
 a129
 n130
 n131,
 .slice
 a132
 n133
 n134])) ∧
 K
 (.agg
 (Array.mk
 [.slice
 a129
 n130
 n131,
 .slice
 a132
 n133
 n134]))
 M128)
 (∃ (a135 : Option Addr),
 ∃ (n136 : Nat),
 ∃ (n137 : Nat),
 ∃ (a138 : Option Addr),
 ∃ (n139 : Nat),
 ∃ (n140 : Nat),
 rdVar Try.prog M13 32
 (List.length
 (M ++
 [AObj.cells
 [.int .u8 p00,
 .int .u8 p01,
 .int .i16 p02,
 .string p03]
 4 Mode.live]))
 0 =
 some
 (.agg
 (Array.mk
 [.slice a135 n136 n137,
 .slice a138 n139 n140])) ∧
 ∃ (M141 : Mem),
 wrCells M13
 (List.length
 (M ++
 [AObj.cells
 [.int .u8 p00,
 .int .u8 p01,
 .int .i16 p02,
 .string p03]
 4 Mode.live] ++
 [AObj.cells
 [.slice p10 p10n p10c,
 .slice p11 p11n p11c]
 2 Mode.live]))
 0
 [.slice a135 n136 n137,
 .slice a138 n139 n140] =
 some M141 ∧
 ∃ (a142 : Option Addr),
 ∃ (n143 : Nat),
 ∃ (n144 : Nat),
 ∃ (a145 : Option Addr),
 ∃ (n146 : Nat),
 ∃ (n147 : Nat),
 rdVar Try.prog M141 32
 (List.length
 (M ++
 [AObj.cells
 [.int
 .u8
 p00,
 .int
 .u8
 p01,
 .int
 .i16
 p02,
 .string
 p03]
 4
 Mode.live] ++
 [AObj.cells
 [.slice p10
 p10n p10c,
 .slice
 p11 p11n
 p11c]
 2 Mode.live]))
 0 =
 some
 (.agg
 (Array.mk
 [.slice a142
 n143 n144,
 .slice a145
 n146 n147])) ∧
 K
 (.agg
 (Array.mk
 [.slice a142 n143
 n144,
 .slice a145
 n146 n147]))
 M141))
 (cnd (eqF i49 (Int.ofNat 5))
 (∃ (a148 : Option Addr),
 ∃ (n149 : Nat),
 ∃ (n150 : Nat),
 rdVar Try.prog M13 22 n38
 (Nat.succ (Nat.succ (Nat.succ n39))) =
 some (Value.slice a148 n149 n150) ∧
 cnd (!leF (Int.ofNat n149) (Int.ofNat 0))
 (∃ (a151 : Option Addr),
 ∃ (n152 : Nat),
 ∃ (n153 : Nat),
 rdVar Try.prog M13 22 n38
 (Nat.succ (Nat.succ (Nat.succ n39))) =
 some (Value.slice a151 n152 n153) ∧
 ∃ (a154 : Option Addr),
 ∃ (n155 : Nat),
 ∃ (n156 : Nat),
 sliceA Try.prog M13 22
 (.slice a151 n152 n153) none
 (some (Value.int .i64 i47))
 (some (Value.int .i64 i47)) =
 some (Value.slice a154 n155 n156) ∧
 ∃ (a157 : Option Addr),
 ∃ (n158 : Nat),
 ∃ (n159 : Nat),
 rdVar Try.prog M13 22 n38
 (Nat.succ
 (Nat.succ (Nat.succ n39))) =
 some
 (.slice a157 n158 n159) ∧
 ∃ (a160 : Option Addr),
 ∃ (n161 : Nat),
 ∃ (n162 : Nat),
 sliceA Try.prog M13 22
 (.slice a157 n158
 n159)
 (some
 (.int
 .i64
 (wrapF .i64
 (Int.add i47
 (Int.ofNat
 1)))))
 none none =
 some
 (.slice a160 n161
 n162) ∧
 ∃ (a163 : Option Addr),
 ∃ (n164 : Nat),
 ∃ (n165 : Nat),
 ∃ (M166 : Mem),
 appendA Try.prog
 M13 22 22
 (.slice
 a154 n155
 n156)
 (.slice
 a160 n161
 n162) =
 some
 (.slice
 a163
 n164
 n165,
 M166) ∧
 ∃ (M167 : Mem),
 wrCells M166
 n38
 (Nat.succ
 (Nat.succ
 (Nat.succ
 n39)))
 [.slice
 a163
 n164
 n165] =
 some
 M167 ∧
 True ∧
 ∃ (a168 :
 Option
 Addr),
 ∃ (n169
 :
 Nat),
 ∃
 (n170
 :
 Nat),
 ∃
 (a171
 :
 Option
 Addr),
 ∃
 (n172
 :
 Nat),
 ∃
 (n173
 :
 Nat),
 rdVar
 Try.prog
 M167
 32
 (List.length
 (M ++
 [AObj.cells
 [.int
 .u8
 p00,
 .int
 .u8
 p01,
 .int
 .i16
 p02,
 .string
 p03]
 4
 Mode.live]))
 0 =
 some
 (.agg
 (Array.mk
 [.slice
 a168
 n169
 n170,
 .slice
 a171
 n172
 n173])) ∧
 ∃
 (M174
 :
 Mem),
 wrCells
 M167
 (List.length
 (M ++
 [AObj.cells
 [.int
 .u8
 p00,
 .int
 .u8
 p01,
 .int
 .i16
 p02,
 .string
 p03]
 4
 Mode.live] ++
 [AObj.cells
 [.slice
 p10
 p10n
 p10c,
 .slice
 p11
 p11n
 p11c]
 2
 Mode.live]))
 0
 [.slice
 a168
 n169
 n170,
 .slice
 a171
 n172
 n173] =
 some
 M174 ∧
 ∃
 (a175
 :
 Option
 Addr),
 ∃
 (n176
 :
 Nat),
 ∃
 (n177
 :
 Nat),
 ∃
 (a178
 :
 Option
 Addr),
 ∃
 (n179
 :
 Nat),
 ∃
 (n180
 :
 Nat),
 rdVar
 Try.prog
 M174
 32
 (List.length
 (M ++
 [AObj.cells
 [.int
 .u8
 p00,
 .int
 .u8
 p01,
 .int
 .i16
 p02,
 .string
 p03]
 4
 Mode.live] ++
 [AObj.cells
 [.slice
 p10
 p10n
 p10c,
 .slice
 p11
 p11n
 p11c]
 2
 Mode.live]))
 0 =
 some
 (.agg
 (Array.mk
 [.slice
 a175
 n176
 n177,
 .slice
 a178
 n179
 n180])) ∧
 K
 (.agg
 (Array.mk
 [.slice
 a175
 n176
 n177,
 .slice
 a178
 n179
 n180]))
 M174)
 (∃ (a181 : Option Addr),
 ∃ (n182 : Nat),
 ∃ (n183 : Nat),
 ∃ (a184 : Option Addr),
 ∃ (n185 : Nat),
 ∃ (n186 : Nat),
 rdVar Try.prog M13 32
 (List.length
 (M ++
 [AObj.cells
 [.int .u8 p00,
 .int .u8 p01,
 .int .i16 p02,
 .string p03]
 4 Mode.live]))
 0 =
 some
 (.agg
 (Array.mk
 [.slice a181 n182 n183,
 .slice a184 n185 n186])) ∧
 ∃ (M187 : Mem),
 wrCells M13
 (List.length
 (M ++
 [AObj.cells
 [.int .u8 p00,
 .int .u8
 p01,
 .int .i16
 p02,
 .string p03]
 4 Mode.live] ++
 [AObj.cells
 [.slice p10 p10n p10c,
 .slice p11 p11n p11c]
 2 Mode.live]))
 0
 [.slice a181 n182 n183,
 .slice a184 n185 n186] =
 some M187 ∧
 ∃ (a188 : Option Addr),
 ∃ (n189 : Nat),
 ∃ (n190 : Nat),
 ∃ (a191 : Option Addr),
 ∃ (n192 : Nat),
 ∃ (n193 : Nat),
 rdVar Try.prog M187 32
 (List.length
 (M ++
 [AObj.cells
 [.int
 .u8
 p00,
 .int
 .u8
 p01,
 .int
 .i16
 p02,
 .string
 p03]
 4
 Mode.live] ++
 [AObj.cells
 [.slice
 p10 p10n
 p10c,
 .slice
 p11 p11n
 p11c]
 2 Mode.live]))
 0 =
 some
 (.agg
 (Array.mk
 [.slice a188
 n189 n190,
 .slice a191
 n192 n193])) ∧
 K
 (.agg
 (Array.mk
 [.slice a188
 n189 n190,
 .slice a191
 n192 n193]))
 M187))
 (cnd (eqF i49 (Int.ofNat 6))
 (∃ (a194 : Option Addr),
 ∃ (n195 : Nat),
 ∃ (n196 : Nat),
 rdVar Try.prog M13 22 n38
 (Nat.succ (Nat.succ (Nat.succ n39))) =
 some (Value.slice a194 n195 n196) ∧
 ∃ (i197 : Int),
 rdVar Try.prog M13 26 (List.length M) 2 =
 some (Value.int .i16 i197) ∧
 ∃ (i198 : Int),
 binA Try.prog BinOp.rem 26 (Operand.tmp 128)
 (Operand.const
 (.int .i16 (Int.ofNat 200)))
 (.int .i16 i197)
 (.int .i16 (Int.ofNat 200)) =
 some (Value.int .i16 i198) ∧
 ∃ (a199 : Option Addr),
 ∃ (n200 : Nat),
 ∃ (n201 : Nat),
 ∃ (M202 : Mem),
 appendA Try.prog
 (M13 ++
 [AObj.cells
 [.int .i64
 (IntKind.wrap .i64
 i198)]
 1 Mode.live])
 22 22 (.slice a194 n195 n196)
 (.slice
 (some
 (.mk (List.length M13) 0
 none))
 1 1) =
 some
 (.slice a199 n200 n201, M202) ∧
 ∃ (M203 : Mem),
 wrCells M202 n38
 (Nat.succ
 (Nat.succ (Nat.succ n39)))
 [.slice a199 n200 n201] =
 some M203 ∧
 True ∧
 ∃ (a204 : Option Addr),
 ∃ (n205 : Nat),
 ∃ (n206 : Nat),
 ∃ (a207 : Option Addr),
 ∃ (n208 : Nat),
 ∃ (n209 : Nat),
 rdVar Try.prog M203 32
 (List.length
 (M ++
 [AObj.cells
 [.int
 .u8
 p00,
 .int
 .u8
 p01,
 .int
 .i16
 p02,
 .string
 p03]
 4
 Mode.live]))
 0 =
 some
 (.agg
 (Array.mk
 [.slice
 a204
 n205
 n206,
 .slice
 a207
 n208
 n209])) ∧
 ∃ (M210 : Mem),
 wrCells M203
 (List.length
 (M ++
 [AObj.cells
 [.int
 .u8
 p00,
 .int
 .u8
 p01,
 .int
 .i16
 p02,
 .string
 p03]
 4
 Mode.live] ++
 [AObj.cells
 [.slice
 p10
 p10n
 p10c,
 .slice
 p11
 p11n
 p11c]
 2
 Mode.live]))
 0
 [.slice
 a204
 n205
 n206,
 .slice
 a207
 n208
 n209] =
 some M210 ∧
 ∃ (a211 :
 Option Addr),
 ∃ (n212 :
 Nat),
 ∃ (n213 :
 Nat),
 ∃ (a214 :
 Option
 Addr),
 ∃ (n215
 :
 Nat),
 ∃
 (n216
 :
 Nat),
 rdVar
 Try.prog
 M210
 32
 (List.length
 (M ++
 [AObj.cells
 [.int
 .u8
 p00,
 .int
 .u8
 p01,
 .int
 .i16
 p02,
 .string
 p03]
 4
 Mode.live] ++
 [AObj.cells
 [.slice
 p10
 p10n
 p10c,
 .slice
 p11
 p11n
 p11c]
 2
 Mode.live]))
 0 =
 some
 (.agg
 (Array.mk
 [.slice
 a211
 n212
 n213,
 .slice
 a214
 n215
 n216])) ∧
 K
 (.agg
 (Array.mk
 [.slice
 a211
 n212
 n213,
 .slice
 a214
 n215
 n216]))
 M210)
 (cnd (eqF i49 (Int.ofNat 7))
 (∃ (a217 : Option Addr),
 ∃ (n218 : Nat),
 ∃ (n219 : Nat),
 rdVar Try.prog M13 22
 (List.length
 (M ++
 [AObj.cells
 [.int .u8 p00,
 .int .u8 p01,
 .int .i16 p02,
 .string p03]
 4 Mode.live]))
 1 =
 some (Value.slice a217 n218 n219) ∧
 ∃ (a220 : Option Addr),
 ∃ (n221 : Nat),
 ∃ (n222 : Nat),
 ∃ (M223 : Mem),
 appendA Try.prog
 (M13 ++
 [AObj.cells [.int .i64 i34]
 1 Mode.live])
 22 22 (.slice a217 n218 n219)
 (.slice
 (some
 (.mk (List.length M13) 0 none))
 1 1) =
 some (Value.slice a220 n221 n222, M223) ∧
 ∃ (M224 : Mem),
 wrCells M223
 (List.length
 (M ++
 [AObj.cells
 [.int .u8 p00,
 .int .u8 p01,
 .int .i16 p02,
 .string p03]
 4 Mode.live]))
 1 [.slice a220 n221 n222] =
 some M224 ∧
 ∃ (a225 : Option Addr),
 ∃ (n226 : Nat),
 ∃ (n227 : Nat),
 ∃ (a228 : Option Addr),
 ∃ (n229 : Nat),
 ∃ (n230 : Nat),
 rdVar Try.prog M224 32
 (List.length
 (M ++
 [AObj.cells
 [.int
 .u8
 p00,
 .int
 .u8
 p01,
 .int
 .i16
 p02,
 .string
 p03]
 4 Mode.live]))
 0 =
 some
 (.agg
 (Array.mk
 [.slice a225
 n226 n227,
 .slice a228
 n229 n230])) ∧
 ∃ (M231 : Mem),
 wrCells M224
 (List.length
 (M ++
 [AObj.cells
 [.int
 .u8
 p00,
 .int
 .u8
 p01,
 .int
 .i16
 p02,
 .string
 p03]
 4
 Mode.live] ++
 [AObj.cells
 [.slice
 p10 p10n
 p10c,
 .slice
 p11 p11n
 p11c]
 2
 Mode.live]))
 0
 [.slice a225
 n226 n227,
 .slice a228
 n229 n230] =
 some M231 ∧
 ∃ (a232 : Option Addr),
 ∃ (n233 : Nat),
 ∃ (n234 : Nat),
 ∃ (a235 :
 Option Addr),
 ∃ (n236 : Nat),
 ∃ (n237 :
 Nat),
 rdVar
 Try.prog
 M231
 32
 (List.length
 (M ++
 [AObj.cells
 [.int
 .u8
 p00,
 .int
 .u8
 p01,
 .int
 .i16
 p02,
 .string
 p03]
 4
 Mode.live] ++
 [AObj.cells
 [.slice
 p10
 p10n
 p10c,
 .slice
 p11
 p11n
 p11c]
 2
 Mode.live]))
 0 =
 some
 (.agg
 (Array.mk
 [.slice
 a232
 n233
 n234,
 .slice
 a235
 n236
 n237])) ∧
 K
 (.agg
 (Array.mk
 [.slice
 a232
 n233
 n234,
 .slice
 a235
 n236
 n237]))
 M231)
 (cnd (eqF i49 (Int.ofNat 8))
 (∃ (a238 : Option Addr),
 ∃ (n239 : Nat),
 ∃ (n240 : Nat),
 rdVar Try.prog M13 22
 (List.length
 (M ++
 [AObj.cells
 [.int .u8 p00,
 .int .u8 p01,
 .int .i16 p02,
 .string p03]
 4 Mode.live]))
 1 =
 some (Value.slice a238 n239 n240) ∧
 ∃ (a241 : Option Addr),
 ∃ (n242 : Nat),
 ∃ (n243 : Nat),
 rdVar Try.prog M13 22
 (List.length
 (M ++
 [AObj.cells
 [.int .u8 p00,
 .int .u8 p01,
 .int .i16 p02,
 .string p03]
 4 Mode.live]))
 1 =
 some (Value.slice a241 n242 n243) ∧
 ∃ (a244 : Option Addr),
 ∃ (n245 : Nat),
 ∃ (n246 : Nat),
 sliceA Try.prog M13 22
 (.slice a238 n239 n240) none
 (some
 (.int .i64
 (if Int.ofNat 0 < wrapF .i64
 (Int.sub
 (Int.ofNat n242)
 (Int.ofNat 1)) then
 wrapF .i64
 (Int.sub (Int.ofNat n242)
 (Int.ofNat 1))
 else Int.ofNat 0)))
 none =
 some (Value.slice a244 n245 n246) ∧
 ∃ (M247 : Mem),
 wrCells M13
 (List.length
 (M ++
 [AObj.cells
 [.int .u8
 p00,
 .int .u8
 p01,
 .int
 .i16 p02,
 .string p03]
 4 Mode.live]))
 1
 [.slice a244 n245 n246] =
 some M247 ∧
 ∃ (a248 : Option Addr),
 ∃ (n249 : Nat),
 ∃ (n250 : Nat),
 ∃ (a251 : Option Addr),
 ∃ (n252 : Nat),
 ∃ (n253 : Nat),
 rdVar Try.prog M247 32
 (List.length
 (M ++
 [AObj.cells
 [.int
 .u8
 p00,
 .int
 .u8
 p01,
 .int
 .i16
 p02,
 .string
 p03]
 4
 Mode.live]))
 0 =
 some
 (.agg
 (Array.mk
 [.slice
 a248
 n249
 n250,
 .slice
 a251
 n252
 n253])) ∧
 ∃ (M254 : Mem),
 wrCells M247
 (List.length
 (M ++
 [AObj.cells
 [.int
 .u8
 p00,
 .int
 .u8
 p01,
 .int
 .i16
 p02,
 .string
 p03]
 4
 Mode.live] ++
 [AObj.cells
 [.slice
 p10
 p10n
 p10c,
 .slice
 p11
 p11n
 p11c]
 2
 Mode.live]))
 0
 [.slice
 a248
 n249
 n250,
 .slice
 a251
 n252
 n253] =
 some M254 ∧
 ∃ (a255 :
 Option Addr),
 ∃ (n256 :
 Nat),
 ∃ (n257 :
 Nat),
 ∃ (a258 :
 Option
 Addr),
 ∃ (n259
 :
 Nat),
 ∃
 (n260
 :
 Nat),
 rdVar
 Try.prog
 M254
 32
 (List.length
 (M ++
 [AObj.cells
 [.int
 .u8
 p00,
 .int
 .u8
 p01,
 .int
 .i16
 p02,
 .string
 p03]
 4
 Mode.live] ++
 [AObj.cells
 [.slice
 p10
 p10n
 p10c,
 .slice
 p11
 p11n
 p11c]
 2
 Mode.live]))
 0 =
 some
 (.agg
 (Array.mk
 [.slice
 a255
 n256
 n257,
 .slice
 a258
 n259
 n260])) ∧
 K
 (.agg
 (Array.mk
 [.slice
 a255
 n256
 n257,
 .slice
 a258
 n259
 n260]))
 M254)
 (cnd (eqF i49 (Int.ofNat 9))
 (∃ (a261 : Option Addr),
 ∃ (n262 : Nat),
 ∃ (n263 : Nat),
 rdVar Try.prog M13 30
 (List.length
 (M ++
 [AObj.cells
 [.int .u8 p00,
 .int .u8 p01,
 .int .i16 p02,
 .string p03]
 4 Mode.live]))
 0 =
 some (Value.slice a261 n262 n263) ∧
 ∃ (a264 : Option Addr),
 ∃ (n265 : Nat),
 ∃ (n266 : Nat),
 rdVar Try.prog M13 30
 (List.length
 (M ++
 [AObj.cells
 [.int .u8 p00,
 .int .u8 p01,
 .int .i16 p02,
 .string p03]
 4 Mode.live]))
 0 =
 some (Value.slice a264 n265 n266) ∧
 ∃ (a267 : Option Addr),
 ∃ (n268 : Nat),
 ∃ (n269 : Nat),
 sliceA Try.prog M13 30
 (.slice a261 n262 n263)
 none
 (some
 (.int .i64
 (wrapF .i64
 (Int.sub (Int.ofNat n265)
 (Int.ofNat 1)))))
 none =
 some
 (.slice a267 n268 n269) ∧
 ∃ (M270 : Mem),
 wrCells M13
 (List.length
 (M ++
 [AObj.cells
 [.int
 .u8 p00,
 .int
 .u8 p01,
 .int
 .i16 p02,
 .string p03]
 4 Mode.live]))
 0
 [.slice a267 n268
 n269] =
 some M270 ∧
 ∃ (a271 : Option Addr),
 ∃ (n272 : Nat),
 ∃ (n273 : Nat),
 ∃ (a274 : Option Addr),
 ∃ (n275 : Nat),
 ∃ (n276 : Nat),
 rdVar Try.prog M270
 32
 (List.length
 (M ++
 [AObj.cells
 [.int
 .u8
 p00,
 .int
 .u8
 p01,
 .int
 .i16
 p02,
 .string
 p03]
 4
 Mode.live]))
 0 =
 some
 (.agg
 (Array.mk
 [.slice
 a271
 n272
 n273,
 .slice
 a274
 n275
 n276])) ∧
 ∃ (M277 : Mem),
 wrCells M270
 (List.length
 (M ++
 [AObj.cells
 [.int
 .u8
 p00,
 .int
 .u8
 p01,
 .int
 .i16
 p02,
 .string
 p03]
 4
 Mode.live] ++
 [AObj.cells
 [.slice
 p10
 p10n
 p10c,
 .slice
 p11
 p11n
 p11c]
 2
 Mode.live]))
 0
 [.slice
 a271
 n272
 n273,
 .slice
 a274
 n275
 n276] =
 some M277 ∧
 ∃ (a278 :
 Option
 Addr),
 ∃ (n279 :
 Nat),
 ∃ (n280 :
 Nat),
 ∃ (a281
 :
 Option
 Addr),
 ∃
 (n282
 :
 Nat),
 ∃
 (n283
 :
 Nat),
 rdVar
 Try.prog
 M277
 32
 (List.length
 (M ++
 [AObj.cells
 [.int
 .u8
 p00,
 .int
 .u8
 p01,
 .int
 .i16
 p02,
 .string
 p03]
 4
 Mode.live] ++
 [AObj.cells
 [.slice
 p10
 p10n
 p10c,
 .slice
 p11
 p11n
 p11c]
 2
 Mode.live]))
 0 =
 some
 (.agg
 (Array.mk
 [.slice
 a278
 n279
 n280,
 .slice
 a281
 n282
 n283])) ∧
 K
 (.agg
 (Array.mk
 [.slice
 a278
 n279
 n280,
 .slice
 a281
 n282
 n283]))
 M277)
 (cnd (eqF i49 (Int.ofNat 10))
 (∃ (a284 : Option Addr),
 ∃ (n285 : Nat),
 ∃ (n286 : Nat),
 rdVar Try.prog M13 30
 (List.length
 (M ++
 [AObj.cells
 [.int .u8 p00,
 .int .u8 p01,
 .int .i16 p02,
 .string p03]
 4 Mode.live]))
 0 =
 some (Value.slice a284 n285 n286) ∧
 ∃ (a287 : Option Addr),
 ∃ (n288 : Nat),
 ∃ (n289 : Nat),
 rdVar Try.prog M13 30
 (List.length
 (M ++
 [AObj.cells
 [.int .u8 p00,
 .int .u8 p01,
 .int .i16 p02,
 .string p03]
 4 Mode.live]))
 0 =
 some (Value.slice a287 n288 n289) ∧
 ∃ (n290 : Nat),
 ∃ (n291 : Nat),
 idxA Try.prog 30
 (.slice a287 n288 n289)
 (.int .i64 i34) =
 some
 (.pointer
 (some
 (.mk n290 n291 none))) ∧
 ∃ (i292 : Int),
 ∃ (s293 : ByteArray),
 ∃ (s294 : ByteArray),
 ∃ (a295 : Option Addr),
 ∃ (n296 : Nat),
 ∃ (n297 : Nat),
 ∃ (i298 : Int),
 rdVar Try.prog M13 24
 n290 n291 =
 some
 (.agg
 (Array.mk
 [.int
 .i64
 i292,
 .string
 s293,
 .string
 s294,
 .slice
 a295
 n296
 n297,
 .int
 .i64
 i298])) ∧
 ∃ (a299 :
 Option Addr),
 ∃ (n300 : Nat),
 ∃ (n301 : Nat),
 ∃ (M302 :
 Mem),
 appendA
 Try.prog
 (M13 ++
 [AObj.cells
 [.int
 .i64
 i292,
 .string
 s293,
 .string
 s294,
 .slice
 a295
 n296
 n297,
 .int
 .i64
 i298]
 5
 Mode.live])
 30 30
 (.slice
 a284
 n285
 n286)
 (.slice
 (some
 (.mk
 (List.length
 M13)
 0
 none))
 1
 1) =
 some
 (.slice
 a299
 n300
 n301,
 M302) ∧
 ∃ (M303 :
 Mem),
 wrCells
 M302
 (List.length
 (M ++
 [AObj.cells
 [.int
 .u8
 p00,
 .int
 .u8
 p01,
 .int
 .i16
 p02,
 .string
 p03]
 4
 Mode.live]))
 0
 [.slice
 a299
 n300
 n301] =
 some
 M303 ∧
 True ∧
 ∃
 (a304
 :
 Option
 Addr),
 ∃
 (n305
 :
 Nat),
 ∃
 (n306
 :
 Nat),
 ∃
 (a307
 :
 Option
 Addr),
 ∃
 (n308
 :
 Nat),
 ∃
 (n309
 :
 Nat),
 rdVar
 Try.prog
 M303
 32
 (List.length
 (M ++
 [AObj.cells
 [.int
 .u8
 p00,
 .int
 .u8
 p01,
 .int
 .i16
 p02,
 .string
 p03]
 4
 Mode.live]))
 0 =
 some
 (.agg
 (Array.mk
 [.slice
 a304
 n305
 n306,
 .slice
 a307
 n308
 n309])) ∧
 ∃
 (M310
 :
 Mem),
 wrCells
 M303
 (List.length
 (M ++
 [AObj.cells
 [.int
 .u8
 p00,
 .int
 .u8
 p01,
 .int
 .i16
 p02,
 .string
 p03]
 4
 Mode.live] ++
 [AObj.cells
 [.slice
 p10
 p10n
 p10c,
 .slice
 p11
 p11n
 p11c]
 2
 Mode.live]))
 0
 [.slice
 a304
 n305
 n306,
 .slice
 a307
 n308
 n309] =
 some
 M310 ∧
 ∃
 (a311
 :
 Option
 Addr),
 ∃
 (n312
 :
 Nat),
 ∃
 (n313
 :
 Nat),
 ∃
 (a314
 :
 Option
 Addr),
 ∃
 (n315
 :
 Nat),
 ∃
 (n316
 :
 Nat),
 rdVar
 Try.prog
 M310
 32
 (List.length
 (M ++
 [AObj.cells
 [.int
 .u8
 p00,
 .int
 .u8
 p01,
 .int
 .i16
 p02,
 .string
 p03]
 4
 Mode.live] ++
 [AObj.cells
 [.slice
 p10
 p10n
 p10c,
 .slice
 p11
 p11n
 p11c]
 2
 Mode.live]))
 0 =
 some
 (.agg
 (Array.mk
 [.slice
 a311
 n312
 n313,
 .slice
 a314
 n315
 n316])) ∧
 K
 (.agg
 (Array.mk
 [.slice
 a311
 n312
 n313,
 .slice
 a314
 n315
 n316]))
 M310)
 (cnd (eqF i49 (Int.ofNat 11))
 (∃ (a317 : Option Addr),
 ∃ (n318 : Nat),
 ∃ (n319 : Nat),
 rdVar Try.prog M13 22
 (List.length
 (M ++
 [AObj.cells
 [.int .u8 p00,
 .int .u8 p01,
 .int .i16 p02,
 .string p03]
 4 Mode.live]))
 1 =
 some (Value.slice a317 n318 n319) ∧
 cnd (!leF (Int.ofNat n318) (Int.ofNat 0))
 (∃ (a320 : Option Addr),
 ∃ (n321 : Nat),
 ∃ (n322 : Nat),
 rdVar Try.prog M13 22
 (List.length
 (M ++
 [AObj.cells
 [.int .u8 p00,
 .int .u8
 p01,
 .int .i16
 p02,
 .string p03]
 4 Mode.live]))
 1 =
 some (Value.slice a320 n321 n322) ∧
 ∃ (i323 : Int),
 rdVar Try.prog M13 5 (List.length M)
 1 =
 some
 (.int .u8 i323) ∧
 ∃ (a324 : Option Addr),
 ∃ (n325 : Nat),
 ∃ (n326 : Nat),
 rdVar Try.prog M13 22
 (List.length
 (M ++
 [AObj.cells
 [.int
 .u8
 p00,
 .int
 .u8
 p01,
 .int
 .i16
 p02,
 .string
 p03]
 4 Mode.live]))
 1 =
 some
 (.slice a324 n325
 n326) ∧
 ∃ (i327 : Int),
 binA Try.prog BinOp.rem
 3
 (Operand.tmp 186)
 (Operand.tmp 189)
 (.int
 .i64
 (IntKind.wrap
 .i64
 i323))
 (.int
 .i64
 (Int.ofNat
 n325)) =
 some
 (.int
 .i64
 i327) ∧
 ∃ (i328 : Int),
 rdVar Try.prog M13
 26
 (List.length
 M)
 2 =
 some
 (.int
 .i16
 i328) ∧
 ∃ (i329 : Int),
 binA Try.prog
 BinOp.rem
 26
 (Operand.tmp
 192)
 (Operand.const
 (.int
 .i16
 (Int.ofNat
 200)))
 (.int
 .i16
 i328)
 (.int
 .i16
 (Int.ofNat
 200)) =
 some
 (.int
 .i16
 i329) ∧
 ∃ (n330 :
 Nat),
 ∃ (n331 :
 Nat),
 idxA
 Try.prog
 22
 (.slice
 a320
 n321
 n322)
 (.int
 .i64
 i327) =
 some
 (.pointer
 (some
 (.mk
 n330
 n331
 none))) ∧
 ∃ (M332
 :
 Mem),
 wrCells
 M13
 n330
 n331
 [.int
 .i64
 (IntKind.wrap
 .i64
 i329)] =
 some
 M332 ∧
 True ∧
 ∃
 (a333
 :
 Option
 Addr),
 ∃
 (n334
 :
 Nat),
 ∃
 (n335
 :
 Nat),
 ∃
 (a336
 :
 Option
 Addr),
 ∃
 (n337
 :
 Nat),
 ∃
 (n338
 :
 Nat),
 rdVar
 Try.prog
 M332
 32
 (List.length
 (M ++
 [AObj.cells
 [.int
 .u8
 p00,
 .int
 .u8
 p01,
 .int
 .i16
 p02,
 .string
 p03]
 4
 Mode.live]))
 0 =
 some
 (.agg
 (Array.mk
 [.slice
 a333
 n334
 n335,
 .slice
 a336
 n337
 n338])) ∧
 ∃
 (M339
 :
 Mem),
 wrCells
 M332
 (List.length
 (M ++
 [AObj.cells
 [.int
 .u8
 p00,
 .int
 .u8
 p01,
 .int
 .i16
 p02,
 .string
 p03]
 4
 Mode.live] ++
 [AObj.cells
 [.slice
 p10
 p10n
 p10c,
 .slice
 p11
 p11n
 p11c]
 2
 Mode.live]))
 0
 [.slice
 a333
 n334
 n335,
 .slice
 a336
 n337
 n338] =
 some
 M339 ∧
 ∃
 (a340
 :
 Option
 Addr),
 ∃
 (n341
 :
 Nat),
 ∃
 (n342
 :
 Nat),
 ∃
 (a343
 :
 Option
 Addr),
 ∃
 (n344
 :
 Nat),
 ∃
 (n345
 :
 Nat),
 rdVar
 Try.prog
 M339
 32
 (List.length
 (M ++
 [AObj.cells
 [.int
 .u8
 p00,
 .int
 .u8
 p01,
 .int
 .i16
 p02,
 .string
 p03]
 4
 Mode.live] ++
 [AObj.cells
 [.slice
 p10
 p10n
 p10c,
 .slice
 p11
 p11n
 p11c]
 2
 Mode.live]))
 0 =
 some
 (.agg
 (Array.mk
 [.slice
 a340
 n341
 n342,
 .slice
 a343
 n344
 n345])) ∧
 K
 (.agg
 (Array.mk
 [.slice
 a340
 n341
 n342,
 .slice
 a343
 n344
 n345]))
 M339)
 (∃ (a346 : Option Addr),
 ∃ (n347 : Nat),
 ∃ (n348 : Nat),
 ∃ (a349 : Option Addr),
 ∃ (n350 : Nat),
 ∃ (n351 : Nat),
 rdVar Try.prog M13 32
 (List.length
 (M ++
 [AObj.cells
 [.int
 .u8 p00,
 .int
 .u8 p01,
 .int
 .i16 p02,
 .string p03]
 4 Mode.live]))
 0 =
 some
 (.agg
 (Array.mk
 [.slice a346 n347
 n348,
 .slice a349 n350
 n351])) ∧
 ∃ (M352 : Mem),
 wrCells M13
 (List.length
 (M ++
 [AObj.cells
 [.int
 .u8
 p00,
 .int
 .u8
 p01,
 .int
 .i16
 p02,
 .string
 p03]
 4
 Mode.live] ++
 [AObj.cells
 [.slice p10
 p10n p10c,
 .slice
 p11 p11n
 p11c]
 2 Mode.live]))
 0
 [.slice a346 n347
 n348,
 .slice a349 n350
 n351] =
 some M352 ∧
 ∃ (a353 : Option Addr),
 ∃ (n354 : Nat),
 ∃ (n355 : Nat),
 ∃ (a356 :
 Option Addr),
 ∃ (n357 : Nat),
 ∃ (n358 : Nat),
 rdVar Try.prog
 M352 32
 (List.length
 (M ++
 [AObj.cells
 [.int
 .u8
 p00,
 .int
 .u8
 p01,
 .int
 .i16
 p02,
 .string
 p03]
 4
 Mode.live] ++
 [AObj.cells
 [.slice
 p10
 p10n
 p10c,
 .slice
 p11
 p11n
 p11c]
 2
 Mode.live]))
 0 =
 some
 (.agg
 (Array.mk
 [.slice
 a353
 n354
 n355,
 .slice
 a356
 n357
 n358])) ∧
 K
 (.agg
 (Array.mk
 [.slice
 a353
 n354
 n355,
 .slice
 a356
 n357
 n358]))
 M352))
 (cnd (eqF i49 (Int.ofNat 12))
 (∃ (i359 : Int),
 rdVar Try.prog
 (M13 ++
 [AObj.cells
 [.string
 (ByteArray.mk #[109, 97, 105, 110]),
 .string
 (ByteArray.mk #[102, 110]),
 .string
 (ByteArray.mk
 #[116, 114, 117, 101]),
 .string
 (ByteArray.mk #[103, 101, 116]),
 .string (ByteArray.mk #[43]),
 .string
 (ByteArray.mk #[73, 110, 116]),
 .string
 (ByteArray.mk #[105, 110, 116, 63]),
 .string (ByteArray.mk #[120]),
 .string (ByteArray.mk #[49]),
 .string (ByteArray.mk #[48, 49]),
 .string (ByteArray.mk #[45, 48]),
 .string
 (ByteArray.mk #[104, 97, 115]),
 .string (ByteArray.mk #[97, 63])]
 1 Mode.live])
 26 (List.length M) 2 =
 some (Value.int .i16 i359) ∧
 ∃ (i360 : Int),
 binA Try.prog BinOp.rem 3 (Operand.tmp 203)
 (Operand.const
 (.int .i64 (Int.ofNat 13)))
 (.int .i64
 (IntKind.wrap .i64
 (IntKind.wrap .u16 i359)))
 (.int .i64 (Int.ofNat 13)) =
 some (Value.int .i64 i360) ∧
 ∃ (n361 : Nat),
 ∃ (n362 : Nat),
 idxA Try.prog 53
 (.slice
 (some
 (.mk (List.length M13) 0
 none))
 13 13)
 (.int .i64 i360) =
 some
 (.pointer
 (some (.mk n361 n362 none))) ∧
 ∃ (s363 : ByteArray),
 rdVar Try.prog
 (M13 ++
 [AObj.cells
 [.string
 (ByteArray.mk
 #[109, 97, 105,
 110]),
 .string
 (ByteArray.mk
 #[102, 110]),
 .string
 (ByteArray.mk
 #[116, 114, 117,
 101]),
 .string
 (ByteArray.mk
 #[103, 101, 116]),
 .string
 (ByteArray.mk #[43]),
 .string
 (ByteArray.mk
 #[73, 110, 116]),
 .string
 (ByteArray.mk
 #[105, 110, 116,
 63]),
 .string
 (ByteArray.mk #[120]),
 .string
 (ByteArray.mk #[49]),
 .string
 (ByteArray.mk
 #[48, 49]),
 .string
 (ByteArray.mk
 #[45, 48]),
 .string
 (ByteArray.mk
 #[104, 97, 115]),
 .string
 (ByteArray.mk
 #[97, 63])]
 1 Mode.live])
 9 n361 n362 =
 some (Value.string s363) ∧
 ∃ (M364 : Mem),
 wrCells
 (M13 ++
 [AObj.cells
 [.string
 (ByteArray.mk
 #[109, 97, 105,
 110]),
 .string
 (ByteArray.mk
 #[102, 110]),
 .string
 (ByteArray.mk
 #[116, 114, 117,
 101]),
 .string
 (ByteArray.mk
 #[103, 101,
 116]),
 .string
 (ByteArray.mk
 #[43]),
 .string
 (ByteArray.mk
 #[73, 110,
 116]),
 .string
 (ByteArray.mk
 #[105, 110, 116,
 63]),
 .string
 (ByteArray.mk
 #[120]),
 .string
 (ByteArray.mk
 #[49]),
 .string
 (ByteArray.mk
 #[48, 49]),
 .string
 (ByteArray.mk
 #[45, 48]),
 .string
 (ByteArray.mk
 #[104, 97,
 115]),
 .string
 (ByteArray.mk
 #[97, 63])]
 1 Mode.live])
 n38 (Nat.succ n39)
 [.string s363] =
 some M364 ∧
 ∃ (a365 : Option Addr),
 ∃ (n366 : Nat),
 ∃ (n367 : Nat),
 ∃ (a368 : Option Addr),
 ∃ (n369 : Nat),
 ∃ (n370 : Nat),
 rdVar Try.prog M364
 32
 (List.length
 (M ++
 [AObj.cells
 [.int
 .u8
 p00,
 .int
 .u8
 p01,
 .int
 .i16
 p02,
 .string
 p03]
 4
 Mode.live]))
 0 =
 some
 (.agg
 (Array.mk
 [.slice
 a365
 n366
 n367,
 .slice
 a368
 n369
 n370])) ∧
 ∃ (M371 : Mem),
 wrCells M364
 (List.length
 (M ++
 [AObj.cells
 [.int
 .u8
 p00,
 .int
 .u8
 p01,
 .int
 .i16
 p02,
 .string
 p03]
 4
 Mode.live] ++
 [AObj.cells
 [.slice
 p10
 p10n
 p10c,
 .slice
 p11
 p11n
 p11c]
 2
 Mode.live]))
 0
 [.slice
 a365
 n366
 n367,
 .slice
 a368
 n369
 n370] =
 some M371 ∧
 ∃ (a372 :
 Option
 Addr),
 ∃ (n373 :
 Nat),
 ∃ (n374 :
 Nat),
 ∃ (a375
 :
 Option
 Addr),
 ∃
 (n376
 :
 Nat),
 ∃
 (n377
 :
 Nat),
 rdVar
 Try.prog
 M371
 32
 (List.length
 (M ++
 [AObj.cells
 [.int
 .u8
 p00,
 .int
 .u8
 p01,
 .int
 .i16
 p02,
 .string
 p03]
 4
 Mode.live] ++
 [AObj.cells
 [.slice
 p10
 p10n
 p10c,
 .slice
 p11
 p11n
 p11c]
 2
 Mode.live]))
 0 =
 some
 (.agg
 (Array.mk
 [.slice
 a372
 n373
 n374,
 .slice
 a375
 n376
 n377])) ∧
 K
 (.agg
 (Array.mk
 [.slice
 a372
 n373
 n374,
 .slice
 a375
 n376
 n377]))
 M371)
 (cnd (eqF i49 (Int.ofNat 13))
 (∃ (i378 : Int),
 rdVar Try.prog
 (M13 ++
 [AObj.cells
 [.string
 (ByteArray.mk
 #[109, 97, 105, 110]),
 .string
 (ByteArray.mk #[102, 110]),
 .string (ByteArray.mk #[120]),
 .string
 (ByteArray.mk #[121, 63]),
 .string (ByteArray.mk #[]),
 .string
 (ByteArray.mk #[108, 101, 116]),
 .string
 (ByteArray.mk #[49, 120]),
 .string
 (ByteArray.mk #[95, 97]),
 .string (ByteArray.mk #[65])]
 1 Mode.live])
 26 (List.length M) 2 =
 some (Value.int .i16 i378) ∧
 ∃ (i379 : Int),
 binA Try.prog BinOp.rem 3 (Operand.tmp 216)
 (Operand.const
 (.int .i64 (Int.ofNat 9)))
 (.int .i64
 (IntKind.wrap .i64
 (IntKind.wrap .u16 i378)))
 (.int .i64 (Int.ofNat 9)) =
 some (Value.int .i64 i379) ∧
 ∃ (n380 : Nat),
 ∃ (n381 : Nat),
 idxA Try.prog 53
 (.slice
 (some
 (.mk (List.length M13) 0
 none))
 9 9)
 (.int .i64 i379) =
 some
 (.pointer
 (some
 (.mk n380 n381 none))) ∧
 ∃ (s382 : ByteArray),
 rdVar Try.prog
 (M13 ++
 [AObj.cells
 [.string
 (ByteArray.mk
 #[109, 97, 105,
 110]),
 .string
 (ByteArray.mk
 #[102, 110]),
 .string
 (ByteArray.mk
 #[120]),
 .string
 (ByteArray.mk
 #[121, 63]),
 .string
 (ByteArray.mk #[]),
 .string
 (ByteArray.mk
 #[108, 101, 116]),
 .string
 (ByteArray.mk
 #[49, 120]),
 .string
 (ByteArray.mk
 #[95, 97]),
 .string
 (ByteArray.mk
 #[65])]
 1 Mode.live])
 9 n380 n381 =
 some (Value.string s382) ∧
 ∃ (M383 : Mem),
 wrCells
 (M13 ++
 [AObj.cells
 [.string
 (ByteArray.mk
 #[109, 97,
 105, 110]),
 .string
 (ByteArray.mk
 #[102, 110]),
 .string
 (ByteArray.mk
 #[120]),
 .string
 (ByteArray.mk
 #[121, 63]),
 .string
 (ByteArray.mk
 #[]),
 .string
 (ByteArray.mk
 #[108, 101,
 116]),
 .string
 (ByteArray.mk
 #[49, 120]),
 .string
 (ByteArray.mk
 #[95, 97]),
 .string
 (ByteArray.mk
 #[65])]
 1 Mode.live])
 n38
 (Nat.succ (Nat.succ n39))
 [.string s382] =
 some M383 ∧
 ∃ (a384 : Option Addr),
 ∃ (n385 : Nat),
 ∃ (n386 : Nat),
 ∃ (a387 : Option Addr),
 ∃ (n388 : Nat),
 ∃ (n389 : Nat),
 rdVar Try.prog
 M383 32
 (List.length
 (M ++
 [AObj.cells
 [.int
 .u8
 p00,
 .int
 .u8
 p01,
 .int
 .i16
 p02,
 .string
 p03]
 4
 Mode.live]))
 0 =
 some
 (.agg
 (Array.mk
 [.slice
 a384
 n385
 n386,
 .slice
 a387
 n388
 n389])) ∧
 ∃ (M390 : Mem),
 wrCells M383
 (List.length
 (M ++
 [AObj.cells
 [.int
 .u8
 p00,
 .int
 .u8
 p01,
 .int
 .i16
 p02,
 .string
 p03]
 4
 Mode.live] ++
 [AObj.cells
 [.slice
 p10
 p10n
 p10c,
 .slice
 p11
 p11n
 p11c]
 2
 Mode.live]))
 0
 [.slice
 a384
 n385
 n386,
 .slice
 a387
 n388
 n389] =
 some
 M390 ∧
 ∃ (a391 :
 Option
 Addr),
 ∃ (n392 :
 Nat),
 ∃ (n393
 :
 Nat),
 ∃
 (a394
 :
 Option
 Addr),
 ∃
 (n395
 :
 Nat),
 ∃
 (n396
 :
 Nat),
 rdVar
 Try.prog
 M390
 32
 (List.length
 (M ++
 [AObj.cells
 [.int
 .u8
 p00,
 .int
 .u8
 p01,
 .int
 .i16
 p02,
 .string
 p03]
 4
 Mode.live] ++
 [AObj.cells
 [.slice
 p10
 p10n
 p10c,
 .slice
 p11
 p11n
 p11c]
 2
 Mode.live]))
 0 =
 some
 (.agg
 (Array.mk
 [.slice
 a391
 n392
 n393,
 .slice
 a394
 n395
 n396])) ∧
 K
 (.agg
 (Array.mk
 [.slice
 a391
 n392
 n393,
 .slice
 a394
 n395
 n396]))
 M390)
 (∃ (a397 : Option Addr),
 ∃ (n398 : Nat),
 ∃ (n399 : Nat),
 ∃ (a400 : Option Addr),
 ∃ (n401 : Nat),
 ∃ (n402 : Nat),
 rdVar Try.prog M13 32
 (List.length
 (M ++
 [AObj.cells
 [.int .u8 p00,
 .int .u8
 p01,
 .int .i16
 p02,
 .string p03]
 4 Mode.live]))
 0 =
 some
 (.agg
 (Array.mk
 [.slice a397 n398 n399,
 .slice a400 n401
 n402])) ∧
 ∃ (M403 : Mem),
 wrCells M13
 (List.length
 (M ++
 [AObj.cells
 [.int
 .u8 p00,
 .int
 .u8 p01,
 .int
 .i16 p02,
 .string p03]
 4 Mode.live] ++
 [AObj.cells
 [.slice p10 p10n
 p10c,
 .slice p11 p11n
 p11c]
 2 Mode.live]))
 0
 [.slice a397 n398 n399,
 .slice a400 n401
 n402] =
 some M403 ∧
 ∃ (a404 : Option Addr),
 ∃ (n405 : Nat),
 ∃ (n406 : Nat),
 ∃ (a407 : Option Addr),
 ∃ (n408 : Nat),
 ∃ (n409 : Nat),
 rdVar Try.prog M403 32
 (List.length
 (M ++
 [AObj.cells
 [.int
 .u8
 p00,
 .int
 .u8
 p01,
 .int
 .i16
 p02,
 .string
 p03]
 4
 Mode.live] ++
 [AObj.cells
 [.slice
 p10
 p10n
 p10c,
 .slice
 p11
 p11n
 p11c]
 2
 Mode.live]))
 0 =
 some
 (.agg
 (Array.mk
 [.slice
 a404
 n405
 n406,
 .slice
 a407
 n408
 n409])) ∧
 K
 (.agg
 (Array.mk
 [.slice
 a404 n405
 n406,
 .slice
 a407 n408
 n409]))
 M403)))))))))))))))
 (∃ (i410 : Int),
 rdVar Try.prog M13 5 (List.length M) 0 = some (.int .u8 i410) ∧
 ∃ (i411 : Int),
 binA Try.prog BinOp.rem 5 (Operand.tmp 43) (Operand.const (.int .u8 (Int.ofNat 14)))
 (.int .u8 i410) (.int .u8 (Int.ofNat 14)) =
 some (Value.int .u8 i411) ∧
 cnd (eqF i411 (Int.ofNat 0))
 (∃ (i412 : Int),
 rdVar Try.prog M13 26 (List.length M) 2 = some (.int .i16 i412) ∧
 ∃ (i413 : Int),
 binA Try.prog BinOp.rem 26 (Operand.tmp 49)
 (Operand.const (.int .i16 (Int.ofNat 40))) (.int .i16 i412)
 (.int .i16 (Int.ofNat 40)) =
 some (Value.int .i16 i413) ∧
 ∃ (M414 : Mem),
 wrCells M13 n38 n39 [.int .i64 (IntKind.wrap .i64 i413)] =
 some M414 ∧
 ∃ (a415 : Option Addr),
 ∃ (n416 : Nat),
 ∃ (n417 : Nat),
 ∃ (a418 : Option Addr),
 ∃ (n419 : Nat),
 ∃ (n420 : Nat),
 rdVar Try.prog M414 32
 (List.length
 (M ++
 [AObj.cells
 [.int .u8 p00, .int .u8 p01,
 .int .i16 p02, .string p03]
 4 Mode.live]))
 0 =
 some
 (.agg
 (Array.mk
 [.slice a415 n416 n417, .slice a418 n419 n420])) ∧
 ∃ (M421 : Mem),
 wrCells M414
 (List.length
 (M ++
 [AObj.cells
 [.int .u8 p00, .int .u8 p01,
 .int .i16 p02, .string p03]
 4 Mode.live] ++
 [AObj.cells
 [.slice p10 p10n p10c, .slice p11 p11n p11c]
 2 Mode.live]))
 0 [.slice a415 n416 n417, .slice a418 n419 n420] =
 some M421 ∧
 ∃ (a422 : Option Addr),
 ∃ (n423 : Nat),
 ∃ (n424 : Nat),
 ∃ (a425 : Option Addr),
 ∃ (n426 : Nat),
 ∃ (n427 : Nat),
 rdVar Try.prog M421 32
 (List.length
 (M ++
 [AObj.cells
 [.int .u8 p00,
 .int .u8 p01,
 .int .i16 p02,
 .string p03]
 4 Mode.live] ++
 [AObj.cells
 [.slice p10 p10n p10c,
 .slice p11 p11n p11c]
 2 Mode.live]))
 0 =
 some
 (.agg
 (Array.mk
 [.slice a422 n423 n424,
 .slice a425 n426 n427])) ∧
 K
 (.agg
 (Array.mk
 [.slice a422 n423 n424,
 .slice a425 n426 n427]))
 M421)
 (cnd (eqF i411 (Int.ofNat 1))
 (∃ (s428 : ByteArray),
 rdVar Try.prog M13 9 (List.length M) 3 = some (.string s428) ∧
 ∃ (M429 : Mem),
 wrCells M13 n38 (Nat.succ n39) [.string s428] = some M429 ∧
 ∃ (a430 : Option Addr),
 ∃ (n431 : Nat),
 ∃ (n432 : Nat),
 ∃ (a433 : Option Addr),
 ∃ (n434 : Nat),
 ∃ (n435 : Nat),
 rdVar Try.prog M429 32
 (List.length
 (M ++
 [AObj.cells
 [.int .u8 p00, .int .u8 p01,
 .int .i16 p02, .string p03]
 4 Mode.live]))
 0 =
 some
 (.agg
 (Array.mk
 [.slice a430 n431 n432, .slice a433 n434 n435])) ∧
 ∃ (M436 : Mem),
 wrCells M429
 (List.length
 (M ++
 [AObj.cells
 [.int .u8 p00, .int .u8 p01,
 .int .i16 p02, .string p03]
 4 Mode.live] ++
 [AObj.cells
 [.slice p10 p10n p10c, .slice p11 p11n p11c] 2
 Mode.live]))
 0 [.slice a430 n431 n432, .slice a433 n434 n435] =
 some M436 ∧
 ∃ (a437 : Option Addr),
 ∃ (n438 : Nat),
 ∃ (n439 : Nat),
 ∃ (a440 : Option Addr),
 ∃ (n441 : Nat),
 ∃ (n442 : Nat),
 rdVar Try.prog M436 32
 (List.length
 (M ++
 [AObj.cells
 [.int .u8 p00,
 .int .u8 p01,
 .int .i16 p02,
 .string p03]
 4 Mode.live] ++
 [AObj.cells
 [.slice p10 p10n p10c,
 .slice p11 p11n p11c]
 2 Mode.live]))
 0 =
 some
 (.agg
 (Array.mk
 [.slice a437 n438 n439,
 .slice a440 n441 n442])) ∧
 K
 (.agg
 (Array.mk
 [.slice a437 n438 n439,
 .slice a440 n441 n442]))
 M436)
 (cnd (eqF i411 (Int.ofNat 2))
 (∃ (s443 : ByteArray),
 rdVar Try.prog M13 9 (List.length M) 3 = some (.string s443) ∧
 ∃ (M444 : Mem),
 wrCells M13 n38 (Nat.succ (Nat.succ n39)) [.string s443] = some M444 ∧
 ∃ (a445 : Option Addr),
 ∃ (n446 : Nat),
 ∃ (n447 : Nat),
 ∃ (a448 : Option Addr),
 ∃ (n449 : Nat),
 ∃ (n450 : Nat),
 rdVar Try.prog M444 32
 (List.length
 (M ++
 [AObj.cells
 [.int .u8 p00, .int .u8 p01,
 .int .i16 p02, .string p03]
 4 Mode.live]))
 0 =
 some
 (.agg
 (Array.mk
 [.slice a445 n446 n447, .slice a448 n449 n450])) ∧
 ∃ (M451 : Mem),
 wrCells M444
 (List.length
 (M ++
 [AObj.cells
 [.int .u8 p00, .int .u8 p01,
 .int .i16 p02, .string p03]
 4 Mode.live] ++
 [AObj.cells
 [.slice p10 p10n p10c, .slice p11 p11n p11c]
 2 Mode.live]))
 0 [.slice a445 n446 n447, .slice a448 n449 n450] =
 some M451 ∧
 ∃ (a452 : Option Addr),
 ∃ (n453 : Nat),
 ∃ (n454 : Nat),
 ∃ (a455 : Option Addr),
 ∃ (n456 : Nat),
 ∃ (n457 : Nat),
 rdVar Try.prog M451 32
 (List.length
 (M ++
 [AObj.cells
 [.int .u8 p00,
 .int .u8 p01,
 .int .i16 p02,
 .string p03]
 4 Mode.live] ++
 [AObj.cells
 [.slice p10 p10n p10c,
 .slice p11 p11n p11c]
 2 Mode.live]))
 0 =
 some
 (.agg
 (Array.mk
 [.slice a452 n453 n454,
 .slice a455 n456 n457])) ∧
 K
 (.agg
 (Array.mk
 [.slice a452 n453 n454,
 .slice a455 n456 n457]))
 M451)
 (cnd (eqF i411 (Int.ofNat 3))
 (∃ (i458 : Int),
 rdVar Try.prog M13 26 (List.length M) 2 = some (.int .i16 i458) ∧
 ∃ (M459 : Mem),
 wrCells M13 n38 (Nat.succ (Nat.succ (Nat.succ (Nat.succ n39))))
 [.int .i64 (IntKind.wrap .i64 i458)] =
 some M459 ∧
 ∃ (a460 : Option Addr),
 ∃ (n461 : Nat),
 ∃ (n462 : Nat),
 ∃ (a463 : Option Addr),
 ∃ (n464 : Nat),
 ∃ (n465 : Nat),
 rdVar Try.prog M459 32
 (List.length
 (M ++
 [AObj.cells
 [.int .u8 p00, .int .u8 p01,
 .int .i16 p02, .string p03]
 4 Mode.live]))
 0 =
 some
 (.agg
 (Array.mk
 [.slice a460 n461 n462, .slice a463 n464 n465])) ∧
 ∃ (M466 : Mem),
 wrCells M459
 (List.length
 (M ++
 [AObj.cells
 [.int .u8 p00,
 .int .u8 p01,
 .int .i16 p02, .string p03]
 4 Mode.live] ++
 [AObj.cells
 [.slice p10 p10n p10c,
 .slice p11 p11n p11c]
 2 Mode.live]))
 0 [.slice a460 n461 n462, .slice a463 n464 n465] =
 some M466 ∧
 ∃ (a467 : Option Addr),
 ∃ (n468 : Nat),
 ∃ (n469 : Nat),
 ∃ (a470 : Option Addr),
 ∃ (n471 : Nat),
 ∃ (n472 : Nat),
 rdVar Try.prog M466 32
 (List.length
 (M ++
 [AObj.cells
 [.int .u8 p00,
 .int .u8 p01,
 .int .i16 p02,
 .string p03]
 4 Mode.live] ++
 [AObj.cells
 [.slice p10 p10n p10c,
 .slice p11 p11n p11c]
 2 Mode.live]))
 0 =
 some
 (.agg
 (Array.mk
 [.slice a467 n468 n469,
 .slice a470 n471 n472])) ∧
 K
 (.agg
 (Array.mk
 [.slice a467 n468 n469,
 .slice a470 n471 n472]))
 M466)
 (cnd (eqF i411 (Int.ofNat 4))
 (∃ (a473 : Option Addr),
 ∃ (n474 : Nat),
 ∃ (n475 : Nat),
 rdVar Try.prog M13 22 n38 (Nat.succ (Nat.succ (Nat.succ n39))) =
 some (Value.slice a473 n474 n475) ∧
 cnd (!leF (Int.ofNat n474) (Int.ofNat 0))
 (∃ (a476 : Option Addr),
 ∃ (n477 : Nat),
 ∃ (n478 : Nat),
 rdVar Try.prog M13 22 n38 (Nat.succ (Nat.succ (Nat.succ n39))) =
 some (Value.slice a476 n477 n478) ∧
 ∃ (i479 : Int),
 rdVar Try.prog M13 26 (List.length M) 2 =
 some (Value.int .i16 i479) ∧
 ∃ (i480 : Int),
 binA Try.prog BinOp.rem 26 (Operand.tmp 90)
 (Operand.const (.int .i16 (Int.ofNat 200)))
 (.int .i16 i479)
 (.int .i16 (Int.ofNat 200)) =
 some (Value.int .i16 i480) ∧
 ∃ (n481 : Nat),
 ∃ (n482 : Nat),
 idxA Try.prog 22 (.slice a476 n477 n478)
 (.int .i64 (Int.ofNat 0)) =
 some (.pointer (some (.mk n481 n482 none))) ∧
 ∃ (M483 : Mem),
 wrCells M13 n481 n482
 [.int .i64
 (IntKind.wrap .i64 i480)] =
 some M483 ∧
 True ∧
 ∃ (a484 : Option Addr),
 ∃ (n485 : Nat),
 ∃ (n486 : Nat),
 ∃ (a487 : Option Addr),
 ∃ (n488 : Nat),
 ∃ (n489 : Nat),
 rdVar Try.prog M483 32
 (List.length
 (M ++
 [AObj.cells
 [.int .u8
 p00,
 .int .u8
 p01,
 .int .i16
 p02,
 .string p03]
 4 Mode.live]))
 0 =
 some
 (.agg
 (Array.mk
 [.slice a484 n485 n486,
 .slice a487 n488
 n489])) ∧
 ∃ (M490 : Mem),
 wrCells M483
 (List.length
 (M ++
 [AObj.cells
 [.int
 .u8
 p00,
 .int
 .u8
 p01,
 .int
 .i16
 p02,
 .string
 p03]
 4 Mode.live] ++
 [AObj.cells
 [.slice p10
 p10n p10c,
 .slice p11
 p11n p11c]
 2 Mode.live]))
 0
 [.slice a484 n485 n486,
 .slice a487 n488
 n489] =
 some M490 ∧
 ∃ (a491 : Option Addr),
 ∃ (n492 : Nat),
 ∃ (n493 : Nat),
 ∃ (a494 : Option Addr),
 ∃ (n495 : Nat),
 ∃ (n496 : Nat),
 rdVar Try.prog M490
 32
 (List.length
 (M ++
 [AObj.cells
 [.int
 .u8
 p00,
 .int
 .u8
 p01,
 .int
 .i16
 p02,
 .string
 p03]
 4
 Mode.live] ++
 [AObj.cells
 [.slice
 p10
 p10n
 p10c,
 .slice
 p11
 p11n
 p11c]
 2
 Mode.live]))
 0 =
 some
 (.agg
 (Array.mk
 [.slice
 a491
 n492
 n493,
 .slice
 a494
 n495
 n496])) ∧
 K
 (.agg
 (Array.mk
 [.slice
 a491
 n492
 n493,
 .slice
 a494
 n495
 n496]))
 M490)
 (∃ (a497 : Option Addr),
 ∃ (n498 : Nat),
 ∃ (n499 : Nat),
 ∃ (a500 : Option Addr),
 ∃ (n501 : Nat),
 ∃ (n502 : Nat),
 rdVar Try.prog M13 32
 (List.length
 (M ++
 [AObj.cells
 [.int .u8 p00, .int .u8 p01,
 .int .i16 p02, .string p03]
 4 Mode.live]))
 0 =
 some
 (.agg
 (Array.mk
 [.slice a497 n498 n499,
 .slice a500 n501 n502])) ∧
 ∃ (M503 : Mem),
 wrCells M13
 (List.length
 (M ++
 [AObj.cells
 [.int .u8 p00,
 .int .u8 p01,
 .int .i16 p02, .string p03]
 4 Mode.live] ++
 [AObj.cells
 [.slice p10 p10n p10c,
 .slice p11 p11n p11c]
 2 Mode.live]))
 0
 [.slice a497 n498 n499,
 .slice a500 n501 n502] =
 some M503 ∧
 ∃ (a504 : Option Addr),
 ∃ (n505 : Nat),
 ∃ (n506 : Nat),
 ∃ (a507 : Option Addr),
 ∃ (n508 : Nat),
 ∃ (n509 : Nat),
 rdVar Try.prog M503 32
 (List.length
 (M ++
 [AObj.cells
 [.int .u8 p00,
 .int .u8 p01,
 .int .i16 p02,
 .string p03]
 4 Mode.live] ++
 [AObj.cells
 [.slice p10 p10n p10c,
 .slice p11 p11n p11c]
 2 Mode.live]))
 0 =
 some
 (.agg
 (Array.mk
 [.slice a504 n505 n506,
 .slice a507 n508 n509])) ∧
 K
 (.agg
 (Array.mk
 [.slice a504 n505 n506,
 .slice a507 n508 n509]))
 M503))
 (cnd (eqF i411 (Int.ofNat 5))
 (∃ (a510 : Option Addr),
 ∃ (n511 : Nat),
 ∃ (n512 : Nat),
 rdVar Try.prog M13 22 n38 (Nat.succ (Nat.succ (Nat.succ n39))) =
 some (Value.slice a510 n511 n512) ∧
 cnd (!leF (Int.ofNat n511) (Int.ofNat 0))
 (∃ (a513 : Option Addr),
 ∃ (n514 : Nat),
 ∃ (n515 : Nat),
 rdVar Try.prog M13 22 n38 (Nat.succ (Nat.succ (Nat.succ n39))) =
 some (Value.slice a513 n514 n515) ∧
 ∃ (a516 : Option Addr),
 ∃ (n517 : Nat),
 ∃ (n518 : Nat),
 sliceA Try.prog M13 22 (.slice a513 n514 n515) none
 (some (Value.int .i64 (Int.ofNat 0)))
 (some (Value.int .i64 (Int.ofNat 0))) =
 some (Value.slice a516 n517 n518) ∧
 ∃ (a519 : Option Addr),
 ∃ (n520 : Nat),
 ∃ (n521 : Nat),
 rdVar Try.prog M13 22 n38
 (Nat.succ (Nat.succ (Nat.succ n39))) =
 some (Value.slice a519 n520 n521) ∧
 ∃ (a522 : Option Addr),
 ∃ (n523 : Nat),
 ∃ (n524 : Nat),
 sliceA Try.prog M13 22
 (.slice a519 n520 n521)
 (some
 (.int .i64 (Int.ofNat 1)))
 none none =
 some (Value.slice a522 n523 n524) ∧
 ∃ (a525 : Option Addr),
 ∃ (n526 : Nat),
 ∃ (n527 : Nat),
 ∃ (M528 : Mem),
 appendA Try.prog M13 22 22
 (.slice a516 n517 n518)
 (.slice a522 n523 n524) =
 some
 (.slice a525 n526 n527,
 M528) ∧
 ∃ (M529 : Mem),
 wrCells M528 n38
 (Nat.succ
 (Nat.succ
 (Nat.succ n39)))
 [.slice a525 n526
 n527] =
 some M529 ∧
 True ∧
 ∃ (a530 : Option Addr),
 ∃ (n531 : Nat),
 ∃ (n532 : Nat),
 ∃ (a533 :
 Option Addr),
 ∃ (n534 : Nat),
 ∃ (n535 : Nat),
 rdVar Try.prog
 M529 32
 (List.length
 (M ++
 [AObj.cells
 [.int
 .u8
 p00,
 .int
 .u8
 p01,
 .int
 .i16
 p02,
 .string
 p03]
 4
 Mode.live]))
 0 =
 some
 (.agg
 (Array.mk
 [.slice
 a530
 n531
 n532,
 .slice
 a533
 n534
 n535])) ∧
 ∃ (M536 :
 Mem),
 wrCells M529
 (List.length
 (M ++
 [AObj.cells
 [.int
 .u8
 p00,
 .int
 .u8
 p01,
 .int
 .i16
 p02,
 .string
 p03]
 4
 Mode.live] ++
 [AObj.cells
 [.slice
 p10
 p10n
 p10c,
 .slice
 p11
 p11n
 p11c]
 2
 Mode.live]))
 0
 [.slice
 a530
 n531
 n532,
 .slice
 a533
 n534
 n535] =
 some
 M536 ∧
 ∃ (a537 :
 Option
 Addr),
 ∃ (n538
 :
 Nat),
 ∃
 (n539
 :
 Nat),
 ∃
 (a540
 :
 Option
 Addr),
 ∃
 (n541
 :
 Nat),
 ∃
 (n542
 :
 Nat),
 rdVar
 Try.prog
 M536
 32
 (List.length
 (M ++
 [AObj.cells
 [.int
 .u8
 p00,
 .int
 .u8
 p01,
 .int
 .i16
 p02,
 .string
 p03]
 4
 Mode.live] ++
 [AObj.cells
 [.slice
 p10
 p10n
 p10c,
 .slice
 p11
 p11n
 p11c]
 2
 Mode.live]))
 0 =
 some
 (.agg
 (Array.mk
 [.slice
 a537
 n538
 n539,
 .slice
 a540
 n541
 n542])) ∧
 K
 (.agg
 (Array.mk
 [.slice
 a537
 n538
 n539,
 .slice
 a540
 n541
 n542]))
 M536)
 (∃ (a543 : Option Addr),
 ∃ (n544 : Nat),
 ∃ (n545 : Nat),
 ∃ (a546 : Option Addr),
 ∃ (n547 : Nat),
 ∃ (n548 : Nat),
 rdVar Try.prog M13 32
 (List.length
 (M ++
 [AObj.cells
 [.int .u8 p00,
 .int .u8 p01,
 .int .i16 p02, .string p03]
 4 Mode.live]))
 0 =
 some
 (.agg
 (Array.mk
 [.slice a543 n544 n545,
 .slice a546 n547 n548])) ∧
 ∃ (M549 : Mem),
 wrCells M13
 (List.length
 (M ++
 [AObj.cells
 [.int .u8 p00,
 .int .u8 p01,
 .int .i16 p02,
 .string p03]
 4 Mode.live] ++
 [AObj.cells
 [.slice p10 p10n p10c,
 .slice p11 p11n p11c]
 2 Mode.live]))
 0
 [.slice a543 n544 n545,
 .slice a546 n547 n548] =
 some M549 ∧
 ∃ (a550 : Option Addr),
 ∃ (n551 : Nat),
 ∃ (n552 : Nat),
 ∃ (a553 : Option Addr),
 ∃ (n554 : Nat),
 ∃ (n555 : Nat),
 rdVar Try.prog M549 32
 (List.length
 (M ++
 [AObj.cells
 [.int .u8 p00,
 .int .u8 p01,
 .int .i16 p02,
 .string p03]
 4 Mode.live] ++
 [AObj.cells
 [.slice p10 p10n p10c,
 .slice p11 p11n p11c]
 2 Mode.live]))
 0 =
 some
 (.agg
 (Array.mk
 [.slice a550 n551 n552,
 .slice a553 n554 n555])) ∧
 K
 (.agg
 (Array.mk
 [.slice a550 n551 n552,
 .slice a553 n554 n555]))
 M549))
 (cnd (eqF i411 (Int.ofNat 6))
 (∃ (a556 : Option Addr),
 ∃ (n557 : Nat),
 ∃ (n558 : Nat),
 rdVar Try.prog M13 22 n38 (Nat.succ (Nat.succ (Nat.succ n39))) =
 some (Value.slice a556 n557 n558) ∧
 ∃ (i559 : Int),
 rdVar Try.prog M13 26 (List.length M) 2 =
 some (Value.int .i16 i559) ∧
 ∃ (i560 : Int),
 binA Try.prog BinOp.rem 26 (Operand.tmp 128)
 (Operand.const (.int .i16 (Int.ofNat 200)))
 (.int .i16 i559)
 (.int .i16 (Int.ofNat 200)) =
 some (Value.int .i16 i560) ∧
 ∃ (a561 : Option Addr),
 ∃ (n562 : Nat),
 ∃ (n563 : Nat),
 ∃ (M564 : Mem),
 appendA Try.prog
 (M13 ++
 [AObj.cells
 [.int .i64
 (IntKind.wrap .i64 i560)]
 1 Mode.live])
 22 22 (.slice a556 n557 n558)
 (.slice (some (.mk (List.length M13) 0 none))
 1 1) =
 some (Value.slice a561 n562 n563, M564) ∧
 ∃ (M565 : Mem),
 wrCells M564 n38 (Nat.succ (Nat.succ (Nat.succ n39)))
 [.slice a561 n562 n563] =
 some M565 ∧
 True ∧
 ∃ (a566 : Option Addr),
 ∃ (n567 : Nat),
 ∃ (n568 : Nat),
 ∃ (a569 : Option Addr),
 ∃ (n570 : Nat),
 ∃ (n571 : Nat),
 rdVar Try.prog M565 32
 (List.length
 (M ++
 [AObj.cells
 [.int .u8 p00,
 .int .u8
 p01,
 .int .i16
 p02,
 .string p03]
 4 Mode.live]))
 0 =
 some
 (.agg
 (Array.mk
 [.slice a566 n567 n568,
 .slice a569 n570
 n571])) ∧
 ∃ (M572 : Mem),
 wrCells M565
 (List.length
 (M ++
 [AObj.cells
 [.int
 .u8 p00,
 .int
 .u8 p01,
 .int
 .i16 p02,
 .string p03]
 4 Mode.live] ++
 [AObj.cells
 [.slice p10 p10n
 p10c,
 .slice p11 p11n
 p11c]
 2 Mode.live]))
 0
 [.slice a566 n567 n568,
 .slice a569 n570
 n571] =
 some M572 ∧
 ∃ (a573 : Option Addr),
 ∃ (n574 : Nat),
 ∃ (n575 : Nat),
 ∃ (a576 : Option Addr),
 ∃ (n577 : Nat),
 ∃ (n578 : Nat),
 rdVar Try.prog M572 32
 (List.length
 (M ++
 [AObj.cells
 [.int
 .u8
 p00,
 .int
 .u8
 p01,
 .int
 .i16
 p02,
 .string
 p03]
 4
 Mode.live] ++
 [AObj.cells
 [.slice
 p10
 p10n
 p10c,
 .slice
 p11
 p11n
 p11c]
 2
 Mode.live]))
 0 =
 some
 (.agg
 (Array.mk
 [.slice
 a573
 n574
 n575,
 .slice
 a576
 n577
 n578])) ∧
 K
 (.agg
 (Array.mk
 [.slice
 a573 n574
 n575,
 .slice
 a576 n577
 n578]))
 M572)
 (cnd (eqF i411 (Int.ofNat 7))
 (∃ (a579 : Option Addr),
 ∃ (n580 : Nat),
 ∃ (n581 : Nat),
 rdVar Try.prog M13 22
 (List.length
 (M ++
 [AObj.cells
 [.int .u8 p00, .int .u8 p01,
 .int .i16 p02, .string p03]
 4 Mode.live]))
 1 =
 some (Value.slice a579 n580 n581) ∧
 ∃ (a582 : Option Addr),
 ∃ (n583 : Nat),
 ∃ (n584 : Nat),
 ∃ (M585 : Mem),
 appendA Try.prog
 (M13 ++
 [AObj.cells [.int .i64 i34] 1 Mode.live])
 22 22 (.slice a579 n580 n581)
 (.slice (some (.mk (List.length M13) 0 none)) 1
 1) =
 some (Value.slice a582 n583 n584, M585) ∧
 ∃ (M586 : Mem),
 wrCells M585
 (List.length
 (M ++
 [AObj.cells
 [.int .u8 p00,
 .int .u8 p01,
 .int .i16 p02, .string p03]
 4 Mode.live]))
 1 [.slice a582 n583 n584] =
 some M586 ∧
 ∃ (a587 : Option Addr),
 ∃ (n588 : Nat),
 ∃ (n589 : Nat),
 ∃ (a590 : Option Addr),
 ∃ (n591 : Nat),
 ∃ (n592 : Nat),
 rdVar Try.prog M586 32
 (List.length
 (M ++
 [AObj.cells
 [.int .u8 p00,
 .int .u8 p01,
 .int .i16 p02,
 .string p03]
 4 Mode.live]))
 0 =
 some
 (.agg
 (Array.mk
 [.slice a587 n588 n589,
 .slice a590 n591 n592])) ∧
 ∃ (M593 : Mem),
 wrCells M586
 (List.length
 (M ++
 [AObj.cells
 [.int .u8 p00,
 .int .u8 p01,
 .int .i16 p02,
 .string p03]
 4 Mode.live] ++
 [AObj.cells
 [.slice p10 p10n p10c,
 .slice p11 p11n p11c]
 2 Mode.live]))
 0
 [.slice a587 n588 n589,
 .slice a590 n591 n592] =
 some M593 ∧
 ∃ (a594 : Option Addr),
 ∃ (n595 : Nat),
 ∃ (n596 : Nat),
 ∃ (a597 : Option Addr),
 ∃ (n598 : Nat),
 ∃ (n599 : Nat),
 rdVar Try.prog M593 32
 (List.length
 (M ++
 [AObj.cells
 [.int
 .u8
 p00,
 .int
 .u8
 p01,
 .int
 .i16
 p02,
 .string
 p03]
 4
 Mode.live] ++
 [AObj.cells
 [.slice p10
 p10n p10c,
 .slice
 p11 p11n
 p11c]
 2 Mode.live]))
 0 =
 some
 (.agg
 (Array.mk
 [.slice a594
 n595 n596,
 .slice a597
 n598 n599])) ∧
 K
 (.agg
 (Array.mk
 [.slice a594 n595
 n596,
 .slice a597
 n598 n599]))
 M593)
 (cnd (eqF i411 (Int.ofNat 8))
 (∃ (a600 : Option Addr),
 ∃ (n601 : Nat),
 ∃ (n602 : Nat),
 rdVar Try.prog M13 22
 (List.length
 (M ++
 [AObj.cells
 [.int .u8 p00, .int .u8 p01,
 .int .i16 p02, .string p03]
 4 Mode.live]))
 1 =
 some (Value.slice a600 n601 n602) ∧
 ∃ (a603 : Option Addr),
 ∃ (n604 : Nat),
 ∃ (n605 : Nat),
 rdVar Try.prog M13 22
 (List.length
 (M ++
 [AObj.cells
 [.int .u8 p00, .int .u8 p01,
 .int .i16 p02, .string p03]
 4 Mode.live]))
 1 =
 some (Value.slice a603 n604 n605) ∧
 ∃ (a606 : Option Addr),
 ∃ (n607 : Nat),
 ∃ (n608 : Nat),
 sliceA Try.prog M13 22 (.slice a600 n601 n602) none
 (some
 (.int .i64
 (if Int.ofNat 0 < wrapF .i64
 (Int.sub (Int.ofNat n604)
 (Int.ofNat 1)) then
 wrapF .i64
 (Int.sub (Int.ofNat n604) (Int.ofNat 1))
 else Int.ofNat 0)))
 none =
 some (Value.slice a606 n607 n608) ∧
 ∃ (M609 : Mem),
 wrCells M13
 (List.length
 (M ++
 [AObj.cells
 [.int .u8 p00,
 .int .u8 p01,
 .int .i16 p02,
 .string p03]
 4 Mode.live]))
 1 [.slice a606 n607 n608] =
 some M609 ∧
 ∃ (a610 : Option Addr),
 ∃ (n611 : Nat),
 ∃ (n612 : Nat),
 ∃ (a613 : Option Addr),
 ∃ (n614 : Nat),
 ∃ (n615 : Nat),
 rdVar Try.prog M609 32
 (List.length
 (M ++
 [AObj.cells
 [.int .u8 p00,
 .int .u8
 p01,
 .int .i16
 p02,
 .string p03]
 4 Mode.live]))
 0 =
 some
 (.agg
 (Array.mk
 [.slice a610 n611 n612,
 .slice a613 n614
 n615])) ∧
 ∃ (M616 : Mem),
 wrCells M609
 (List.length
 (M ++
 [AObj.cells
 [.int
 .u8 p00,
 .int
 .u8 p01,
 .int
 .i16 p02,
 .string p03]
 4 Mode.live] ++
 [AObj.cells
 [.slice p10 p10n
 p10c,
 .slice p11 p11n
 p11c]
 2 Mode.live]))
 0
 [.slice a610 n611 n612,
 .slice a613 n614
 n615] =
 some M616 ∧
 ∃ (a617 : Option Addr),
 ∃ (n618 : Nat),
 ∃ (n619 : Nat),
 ∃ (a620 : Option Addr),
 ∃ (n621 : Nat),
 ∃ (n622 : Nat),
 rdVar Try.prog M616 32
 (List.length
 (M ++
 [AObj.cells
 [.int
 .u8
 p00,
 .int
 .u8
 p01,
 .int
 .i16
 p02,
 .string
 p03]
 4
 Mode.live] ++
 [AObj.cells
 [.slice
 p10
 p10n
 p10c,
 .slice
 p11
 p11n
 p11c]
 2
 Mode.live]))
 0 =
 some
 (.agg
 (Array.mk
 [.slice
 a617
 n618
 n619,
 .slice
 a620
 n621
 n622])) ∧
 K
 (.agg
 (Array.mk
 [.slice
 a617 n618
 n619,
 .slice
 a620 n621
 n622]))
 M616)
 (cnd (eqF i411 (Int.ofNat 9))
 (∃ (a623 : Option Addr),
 ∃ (n624 : Nat),
 ∃ (n625 : Nat),
 rdVar Try.prog M13 30
 (List.length
 (M ++
 [AObj.cells
 [.int .u8 p00, .int .u8 p01,
 .int .i16 p02, .string p03]
 4 Mode.live]))
 0 =
 some (Value.slice a623 n624 n625) ∧
 ∃ (a626 : Option Addr),
 ∃ (n627 : Nat),
 ∃ (n628 : Nat),
 rdVar Try.prog M13 30
 (List.length
 (M ++
 [AObj.cells
 [.int .u8 p00,
 .int .u8 p01,
 .int .i16 p02, .string p03]
 4 Mode.live]))
 0 =
 some (Value.slice a626 n627 n628) ∧
 ∃ (a629 : Option Addr),
 ∃ (n630 : Nat),
 ∃ (n631 : Nat),
 sliceA Try.prog M13 30 (.slice a623 n624 n625) none
 (some
 (.int .i64
 (wrapF .i64
 (Int.sub (Int.ofNat n627) (Int.ofNat 1)))))
 none =
 some (Value.slice a629 n630 n631) ∧
 ∃ (M632 : Mem),
 wrCells M13
 (List.length
 (M ++
 [AObj.cells
 [.int .u8 p00,
 .int .u8 p01,
 .int .i16 p02,
 .string p03]
 4 Mode.live]))
 0 [.slice a629 n630 n631] =
 some M632 ∧
 ∃ (a633 : Option Addr),
 ∃ (n634 : Nat),
 ∃ (n635 : Nat),
 ∃ (a636 : Option Addr),
 ∃ (n637 : Nat),
 ∃ (n638 : Nat),
 rdVar Try.prog M632 32
 (List.length
 (M ++
 [AObj.cells
 [.int .u8
 p00,
 .int .u8
 p01,
 .int .i16
 p02,
 .string p03]
 4 Mode.live]))
 0 =
 some
 (.agg
 (Array.mk
 [.slice a633 n634 n635,
 .slice a636 n637
 n638])) ∧
 ∃ (M639 : Mem),
 wrCells M632
 (List.length
 (M ++
 [AObj.cells
 [.int
 .u8
 p00,
 .int
 .u8
 p01,
 .int
 .i16
 p02,
 .string
 p03]
 4 Mode.live] ++
 [AObj.cells
 [.slice p10
 p10n p10c,
 .slice p11
 p11n p11c]
 2 Mode.live]))
 0
 [.slice a633 n634 n635,
 .slice a636 n637
 n638] =
 some M639 ∧
 ∃ (a640 : Option Addr),
 ∃ (n641 : Nat),
 ∃ (n642 : Nat),
 ∃ (a643 : Option Addr),
 ∃ (n644 : Nat),
 ∃ (n645 : Nat),
 rdVar Try.prog M639
 32
 (List.length
 (M ++
 [AObj.cells
 [.int
 .u8
 p00,
 .int
 .u8
 p01,
 .int
 .i16
 p02,
 .string
 p03]
 4
 Mode.live] ++
 [AObj.cells
 [.slice
 p10
 p10n
 p10c,
 .slice
 p11
 p11n
 p11c]
 2
 Mode.live]))
 0 =
 some
 (.agg
 (Array.mk
 [.slice
 a640
 n641
 n642,
 .slice
 a643
 n644
 n645])) ∧
 K
 (.agg
 (Array.mk
 [.slice
 a640
 n641
 n642,
 .slice
 a643
 n644
 n645]))
 M639)
 (cnd (eqF i411 (Int.ofNat 10))
 (∃ (a646 : Option Addr),
 ∃ (n647 : Nat),
 ∃ (n648 : Nat),
 rdVar Try.prog M13 30
 (List.length
 (M ++
 [AObj.cells
 [.int .u8 p00, .int .u8 p01,
 .int .i16 p02, .string p03]
 4 Mode.live]))
 0 =
 some (Value.slice a646 n647 n648) ∧
 ∃ (a649 : Option Addr),
 ∃ (n650 : Nat),
 ∃ (n651 : Nat),
 rdVar Try.prog M13 30
 (List.length
 (M ++
 [AObj.cells
 [.int .u8 p00,
 .int .u8 p01,
 .int .i16 p02, .string p03]
 4 Mode.live]))
 0 =
 some (Value.slice a649 n650 n651) ∧
 ∃ (n652 : Nat),
 ∃ (n653 : Nat),
 idxA Try.prog 30 (.slice a649 n650 n651)
 (.int .i64 i34) =
 some
 (.pointer (some (.mk n652 n653 none))) ∧
 ∃ (i654 : Int),
 ∃ (s655 : ByteArray),
 ∃ (s656 : ByteArray),
 ∃ (a657 : Option Addr),
 ∃ (n658 : Nat),
 ∃ (n659 : Nat),
 ∃ (i660 : Int),
 rdVar Try.prog M13 24 n652 n653 =
 some
 (.agg
 (Array.mk
 [.int .i64 i654,
 .string s655,
 .string s656,
 .slice a657 n658 n659,
 .int .i64
 i660])) ∧
 ∃ (a661 : Option Addr),
 ∃ (n662 : Nat),
 ∃ (n663 : Nat),
 ∃ (M664 : Mem),
 appendA Try.prog
 (M13 ++
 [AObj.cells
 [.int
 .i64
 i654,
 .string
 s655,
 .string
 s656,
 .slice a657
 n658 n659,
 .int
 .i64
 i660]
 5 Mode.live])
 30 30
 (.slice a646 n647
 n648)
 (.slice
 (some
 (.mk
 (List.length M13)
 0 none))
 1 1) =
 some
 (.slice a661 n662
 n663,
 M664) ∧
 ∃ (M665 : Mem),
 wrCells M664
 (List.length
 (M ++
 [AObj.cells
 [.int
 .u8
 p00,
 .int
 .u8
 p01,
 .int
 .i16
 p02,
 .string
 p03]
 4
 Mode.live]))
 0
 [.slice a661
 n662 n663] =
 some M665 ∧
 True ∧
 ∃ (a666 :
 Option Addr),
 ∃ (n667 : Nat),
 ∃ (n668 : Nat),
 ∃ (a669 :
 Option Addr),
 ∃ (n670 :
 Nat),
 ∃ (n671 :
 Nat),
 rdVar
 Try.prog
 M665
 32
 (List.length
 (M ++
 [AObj.cells
 [.int
 .u8
 p00,
 .int
 .u8
 p01,
 .int
 .i16
 p02,
 .string
 p03]
 4
 Mode.live]))
 0 =
 some
 (.agg
 (Array.mk
 [.slice
 a666
 n667
 n668,
 .slice
 a669
 n670
 n671])) ∧
 ∃ (M672
 :
 Mem),
 wrCells
 M665
 (List.length
 (M ++
 [AObj.cells
 [.int
 .u8
 p00,
 .int
 .u8
 p01,
 .int
 .i16
 p02,
 .string
 p03]
 4
 Mode.live] ++
 [AObj.cells
 [.slice
 p10
 p10n
 p10c,
 .slice
 p11
 p11n
 p11c]
 2
 Mode.live]))
 0
 [.slice
 a666
 n667
 n668,
 .slice
 a669
 n670
 n671] =
 some
 M672 ∧
 ∃
 (a673
 :
 Option
 Addr),
 ∃
 (n674
 :
 Nat),
 ∃
 (n675
 :
 Nat),
 ∃
 (a676
 :
 Option
 Addr),
 ∃
 (n677
 :
 Nat),
 ∃
 (n678
 :
 Nat),
 rdVar
 Try.prog
 M672
 32
 (List.length
 (M ++
 [AObj.cells
 [.int
 .u8
 p00,
 .int
 .u8
 p01,
 .int
 .i16
 p02,
 .string
 p03]
 4
 Mode.live] ++
 [AObj.cells
 [.slice
 p10
 p10n
 p10c,
 .slice
 p11
 p11n
 p11c]
 2
 Mode.live]))
 0 =
 some
 (.agg
 (Array.mk
 [.slice
 a673
 n674
 n675,
 .slice
 a676
 n677
 n678])) ∧
 K
 (.agg
 (Array.mk
 [.slice
 a673
 n674
 n675,
 .slice
 a676
 n677
 n678]))
 M672)
 (cnd (eqF i411 (Int.ofNat 11))
 (∃ (a679 : Option Addr),
 ∃ (n680 : Nat),
 ∃ (n681 : Nat),
 rdVar Try.prog M13 22
 (List.length
 (M ++
 [AObj.cells
 [.int .u8 p00, .int .u8 p01,
 .int .i16 p02, .string p03]
 4 Mode.live]))
 1 =
 some (Value.slice a679 n680 n681) ∧
 cnd (!leF (Int.ofNat n680) (Int.ofNat 0))
 (∃ (a682 : Option Addr),
 ∃ (n683 : Nat),
 ∃ (n684 : Nat),
 rdVar Try.prog M13 22
 (List.length
 (M ++
 [AObj.cells
 [.int .u8 p00,
 .int .u8 p01,
 .int .i16 p02,
 .string p03]
 4 Mode.live]))
 1 =
 some (Value.slice a682 n683 n684) ∧
 ∃ (i685 : Int),
 rdVar Try.prog M13 5 (List.length M) 1 =
 some (Value.int .u8 i685) ∧
 ∃ (a686 : Option Addr),
 ∃ (n687 : Nat),
 ∃ (n688 : Nat),
 rdVar Try.prog M13 22
 (List.length
 (M ++
 [AObj.cells
 [.int .u8 p00,
 .int .u8 p01,
 .int .i16 p02,
 .string p03]
 4 Mode.live]))
 1 =
 some (Value.slice a686 n687 n688) ∧
 ∃ (i689 : Int),
 binA Try.prog BinOp.rem 3
 (Operand.tmp 186) (Operand.tmp 189)
 (.int .i64
 (IntKind.wrap .i64 i685))
 (.int .i64
 (Int.ofNat n687)) =
 some (Value.int .i64 i689) ∧
 ∃ (i690 : Int),
 rdVar Try.prog M13 26 (List.length M)
 2 =
 some
 (.int .i16 i690) ∧
 ∃ (i691 : Int),
 binA Try.prog BinOp.rem 26
 (Operand.tmp 192)
 (Operand.const
 (.int .i16
 (Int.ofNat 200)))
 (.int .i16 i690)
 (.int .i16
 (Int.ofNat 200)) =
 some
 (.int .i16
 i691) ∧
 ∃ (n692 : Nat),
 ∃ (n693 : Nat),
 idxA Try.prog 22
 (.slice a682 n683
 n684)
 (.int .i64
 i689) =
 some
 (.pointer
 (some
 (.mk n692 n693
 none))) ∧
 ∃ (M694 : Mem),
 wrCells M13 n692 n693
 [.int
 .i64
 (IntKind.wrap
 .i64
 i691)] =
 some M694 ∧
 True ∧
 ∃ (a695 :
 Option Addr),
 ∃ (n696 : Nat),
 ∃ (n697 : Nat),
 ∃ (a698 :
 Option
 Addr),
 ∃ (n699 :
 Nat),
 ∃ (n700 :
 Nat),
 rdVar
 Try.prog
 M694
 32
 (List.length
 (M ++
 [AObj.cells
 [.int
 .u8
 p00,
 .int
 .u8
 p01,
 .int
 .i16
 p02,
 .string
 p03]
 4
 Mode.live]))
 0 =
 some
 (.agg
 (Array.mk
 [.slice
 a695
 n696
 n697,
 .slice
 a698
 n699
 n700])) ∧
 ∃
 (M701
 :
 Mem),
 wrCells
 M694
 (List.length
 (M ++
 [AObj.cells
 [.int
 .u8
 p00,
 .int
 .u8
 p01,
 .int
 .i16
 p02,
 .string
 p03]
 4
 Mode.live] ++
 [AObj.cells
 [.slice
 p10
 p10n
 p10c,
 .slice
 p11
 p11n
 p11c]
 2
 Mode.live]))
 0
 [.slice
 a695
 n696
 n697,
 .slice
 a698
 n699
 n700] =
 some
 M701 ∧
 ∃
 (a702
 :
 Option
 Addr),
 ∃
 (n703
 :
 Nat),
 ∃
 (n704
 :
 Nat),
 ∃
 (a705
 :
 Option
 Addr),
 ∃
 (n706
 :
 Nat),
 ∃
 (n707
 :
 Nat),
 rdVar
 Try.prog
 M701
 32
 (List.length
 (M ++
 [AObj.cells
 [.int
 .u8
 p00,
 .int
 .u8
 p01,
 .int
 .i16
 p02,
 .string
 p03]
 4
 Mode.live] ++
 [AObj.cells
 [.slice
 p10
 p10n
 p10c,
 .slice
 p11
 p11n
 p11c]
 2
 Mode.live]))
 0 =
 some
 (.agg
 (Array.mk
 [.slice
 a702
 n703
 n704,
 .slice
 a705
 n706
 n707])) ∧
 K
 (.agg
 (Array.mk
 [.slice
 a702
 n703
 n704,
 .slice
 a705
 n706
 n707]))
 M701)
 (∃ (a708 : Option Addr),
 ∃ (n709 : Nat),
 ∃ (n710 : Nat),
 ∃ (a711 : Option Addr),
 ∃ (n712 : Nat),
 ∃ (n713 : Nat),
 rdVar Try.prog M13 32
 (List.length
 (M ++
 [AObj.cells
 [.int .u8 p00,
 .int .u8 p01,
 .int .i16 p02,
 .string p03]
 4 Mode.live]))
 0 =
 some
 (.agg
 (Array.mk
 [.slice a708 n709 n710,
 .slice a711 n712 n713])) ∧
 ∃ (M714 : Mem),
 wrCells M13
 (List.length
 (M ++
 [AObj.cells
 [.int .u8 p00,
 .int .u8 p01,
 .int .i16 p02,
 .string p03]
 4 Mode.live] ++
 [AObj.cells
 [.slice p10 p10n p10c,
 .slice p11 p11n p11c]
 2 Mode.live]))
 0
 [.slice a708 n709 n710,
 .slice a711 n712 n713] =
 some M714 ∧
 ∃ (a715 : Option Addr),
 ∃ (n716 : Nat),
 ∃ (n717 : Nat),
 ∃ (a718 : Option Addr),
 ∃ (n719 : Nat),
 ∃ (n720 : Nat),
 rdVar Try.prog M714 32
 (List.length
 (M ++
 [AObj.cells
 [.int
 .u8
 p00,
 .int
 .u8
 p01,
 .int
 .i16
 p02,
 .string
 p03]
 4 Mode.live] ++
 [AObj.cells
 [.slice p10
 p10n p10c,
 .slice p11
 p11n p11c]
 2 Mode.live]))
 0 =
 some
 (.agg
 (Array.mk
 [.slice a715 n716
 n717,
 .slice a718 n719
 n720])) ∧
 K
 (.agg
 (Array.mk
 [.slice a715 n716
 n717,
 .slice a718 n719
 n720]))
 M714))
 (cnd (eqF i411 (Int.ofNat 12))
 (∃ (i721 : Int),
 rdVar Try.prog
 (M13 ++
 [AObj.cells
 [.string (ByteArray.mk #[109, 97, 105, 110]),
 .string (ByteArray.mk #[102, 110]),
 .string (ByteArray.mk #[116, 114, 117, 101]),
 .string (ByteArray.mk #[103, 101, 116]),
 .string (ByteArray.mk #[43]),
 .string (ByteArray.mk #[73, 110, 116]),
 .string (ByteArray.mk #[105, 110, 116, 63]),
 .string (ByteArray.mk #[120]),
 .string (ByteArray.mk #[49]),
 .string (ByteArray.mk #[48, 49]),
 .string (ByteArray.mk #[45, 48]),
 .string (ByteArray.mk #[104, 97, 115]),
 .string (ByteArray.mk #[97, 63])]
 1 Mode.live])
 26 (List.length M) 2 =
 some (Value.int .i16 i721) ∧
 ∃ (i722 : Int),
 binA Try.prog BinOp.rem 3 (Operand.tmp 203)
 (Operand.const (.int .i64 (Int.ofNat 13)))
 (.int .i64
 (IntKind.wrap .i64
 (IntKind.wrap .u16 i721)))
 (.int .i64 (Int.ofNat 13)) =
 some (Value.int .i64 i722) ∧
 ∃ (n723 : Nat),
 ∃ (n724 : Nat),
 idxA Try.prog 53
 (.slice (some (.mk (List.length M13) 0 none))
 13 13)
 (.int .i64 i722) =
 some (.pointer (some (.mk n723 n724 none))) ∧
 ∃ (s725 : ByteArray),
 rdVar Try.prog
 (M13 ++
 [AObj.cells
 [.string
 (ByteArray.mk #[109, 97, 105, 110]),
 .string (ByteArray.mk #[102, 110]),
 .string
 (ByteArray.mk #[116, 114, 117, 101]),
 .string
 (ByteArray.mk #[103, 101, 116]),
 .string (ByteArray.mk #[43]),
 .string
 (ByteArray.mk #[73, 110, 116]),
 .string
 (ByteArray.mk #[105, 110, 116, 63]),
 .string (ByteArray.mk #[120]),
 .string (ByteArray.mk #[49]),
 .string (ByteArray.mk #[48, 49]),
 .string (ByteArray.mk #[45, 48]),
 .string
 (ByteArray.mk #[104, 97, 115]),
 .string (ByteArray.mk #[97, 63])]
 1 Mode.live])
 9 n723 n724 =
 some (Value.string s725) ∧
 ∃ (M726 : Mem),
 wrCells
 (M13 ++
 [AObj.cells
 [.string
 (ByteArray.mk #[109, 97, 105, 110]),
 .string
 (ByteArray.mk #[102, 110]),
 .string
 (ByteArray.mk
 #[116, 114, 117, 101]),
 .string
 (ByteArray.mk #[103, 101, 116]),
 .string (ByteArray.mk #[43]),
 .string
 (ByteArray.mk #[73, 110, 116]),
 .string
 (ByteArray.mk #[105, 110, 116, 63]),
 .string (ByteArray.mk #[120]),
 .string (ByteArray.mk #[49]),
 .string (ByteArray.mk #[48, 49]),
 .string (ByteArray.mk #[45, 48]),
 .string
 (ByteArray.mk #[104, 97, 115]),
 .string (ByteArray.mk #[97, 63])]
 1 Mode.live])
 n38 (Nat.succ n39) [.string s725] =
 some M726 ∧
 ∃ (a727 : Option Addr),
 ∃ (n728 : Nat),
 ∃ (n729 : Nat),
 ∃ (a730 : Option Addr),
 ∃ (n731 : Nat),
 ∃ (n732 : Nat),
 rdVar Try.prog M726 32
 (List.length
 (M ++
 [AObj.cells
 [.int .u8
 p00,
 .int .u8
 p01,
 .int .i16
 p02,
 .string p03]
 4 Mode.live]))
 0 =
 some
 (.agg
 (Array.mk
 [.slice a727 n728 n729,
 .slice a730 n731
 n732])) ∧
 ∃ (M733 : Mem),
 wrCells M726
 (List.length
 (M ++
 [AObj.cells
 [.int
 .u8
 p00,
 .int
 .u8
 p01,
 .int
 .i16
 p02,
 .string
 p03]
 4 Mode.live] ++
 [AObj.cells
 [.slice p10
 p10n p10c,
 .slice p11
 p11n p11c]
 2 Mode.live]))
 0
 [.slice a727 n728 n729,
 .slice a730 n731
 n732] =
 some M733 ∧
 ∃ (a734 : Option Addr),
 ∃ (n735 : Nat),
 ∃ (n736 : Nat),
 ∃ (a737 : Option Addr),
 ∃ (n738 : Nat),
 ∃ (n739 : Nat),
 rdVar Try.prog M733
 32
 (List.length
 (M ++
 [AObj.cells
 [.int
 .u8
 p00,
 .int
 .u8
 p01,
 .int
 .i16
 p02,
 .string
 p03]
 4
 Mode.live] ++
 [AObj.cells
 [.slice
 p10
 p10n
 p10c,
 .slice
 p11
 p11n
 p11c]
 2
 Mode.live]))
 0 =
 some
 (.agg
 (Array.mk
 [.slice
 a734
 n735
 n736,
 .slice
 a737
 n738
 n739])) ∧
 K
 (.agg
 (Array.mk
 [.slice
 a734
 n735
 n736,
 .slice
 a737
 n738
 n739]))
 M733)
 (cnd (eqF i411 (Int.ofNat 13))
 (∃ (i740 : Int),
 rdVar Try.prog
 (M13 ++
 [AObj.cells
 [.string (ByteArray.mk #[109, 97, 105, 110]),
 .string (ByteArray.mk #[102, 110]),
 .string (ByteArray.mk #[120]),
 .string (ByteArray.mk #[121, 63]),
 .string (ByteArray.mk #[]),
 .string (ByteArray.mk #[108, 101, 116]),
 .string (ByteArray.mk #[49, 120]),
 .string (ByteArray.mk #[95, 97]),
 .string (ByteArray.mk #[65])]
 1 Mode.live])
 26 (List.length M) 2 =
 some (Value.int .i16 i740) ∧
 ∃ (i741 : Int),
 binA Try.prog BinOp.rem 3 (Operand.tmp 216)
 (Operand.const (.int .i64 (Int.ofNat 9)))
 (.int .i64
 (IntKind.wrap .i64
 (IntKind.wrap .u16 i740)))
 (.int .i64 (Int.ofNat 9)) =
 some (Value.int .i64 i741) ∧
 ∃ (n742 : Nat),
 ∃ (n743 : Nat),
 idxA Try.prog 53
 (.slice
 (some (.mk (List.length M13) 0 none)) 9 9)
 (.int .i64 i741) =
 some (.pointer (some (.mk n742 n743 none))) ∧
 ∃ (s744 : ByteArray),
 rdVar Try.prog
 (M13 ++
 [AObj.cells
 [.string
 (ByteArray.mk #[109, 97, 105, 110]),
 .string (ByteArray.mk #[102, 110]),
 .string (ByteArray.mk #[120]),
 .string (ByteArray.mk #[121, 63]),
 .string (ByteArray.mk #[]),
 .string
 (ByteArray.mk #[108, 101, 116]),
 .string (ByteArray.mk #[49, 120]),
 .string (ByteArray.mk #[95, 97]),
 .string (ByteArray.mk #[65])]
 1 Mode.live])
 9 n742 n743 =
 some (Value.string s744) ∧
 ∃ (M745 : Mem),
 wrCells
 (M13 ++
 [AObj.cells
 [.string
 (ByteArray.mk
 #[109, 97, 105, 110]),
 .string
 (ByteArray.mk #[102, 110]),
 .string (ByteArray.mk #[120]),
 .string
 (ByteArray.mk #[121, 63]),
 .string (ByteArray.mk #[]),
 .string
 (ByteArray.mk #[108, 101, 116]),
 .string
 (ByteArray.mk #[49, 120]),
 .string
 (ByteArray.mk #[95, 97]),
 .string (ByteArray.mk #[65])]
 1 Mode.live])
 n38 (Nat.succ (Nat.succ n39))
 [.string s744] =
 some M745 ∧
 ∃ (a746 : Option Addr),
 ∃ (n747 : Nat),
 ∃ (n748 : Nat),
 ∃ (a749 : Option Addr),
 ∃ (n750 : Nat),
 ∃ (n751 : Nat),
 rdVar Try.prog M745 32
 (List.length
 (M ++
 [AObj.cells
 [.int .u8
 p00,
 .int .u8
 p01,
 .int
 .i16 p02,
 .string p03]
 4 Mode.live]))
 0 =
 some
 (.agg
 (Array.mk
 [.slice a746 n747
 n748,
 .slice a749 n750
 n751])) ∧
 ∃ (M752 : Mem),
 wrCells M745
 (List.length
 (M ++
 [AObj.cells
 [.int
 .u8
 p00,
 .int
 .u8
 p01,
 .int
 .i16
 p02,
 .string
 p03]
 4 Mode.live] ++
 [AObj.cells
 [.slice p10
 p10n p10c,
 .slice p11
 p11n p11c]
 2 Mode.live]))
 0
 [.slice a746 n747
 n748,
 .slice a749 n750
 n751] =
 some M752 ∧
 ∃ (a753 : Option Addr),
 ∃ (n754 : Nat),
 ∃ (n755 : Nat),
 ∃ (a756 : Option Addr),
 ∃ (n757 : Nat),
 ∃ (n758 : Nat),
 rdVar Try.prog
 M752 32
 (List.length
 (M ++
 [AObj.cells
 [.int
 .u8
 p00,
 .int
 .u8
 p01,
 .int
 .i16
 p02,
 .string
 p03]
 4
 Mode.live] ++
 [AObj.cells
 [.slice
 p10
 p10n
 p10c,
 .slice
 p11
 p11n
 p11c]
 2
 Mode.live]))
 0 =
 some
 (.agg
 (Array.mk
 [.slice
 a753
 n754
 n755,
 .slice
 a756
 n757
 n758])) ∧
 K
 (.agg
 (Array.mk
 [.slice
 a753
 n754
 n755,
 .slice
 a756
 n757
 n758]))
 M752)
 (∃ (a759 : Option Addr),
 ∃ (n760 : Nat),
 ∃ (n761 : Nat),
 ∃ (a762 : Option Addr),
 ∃ (n763 : Nat),
 ∃ (n764 : Nat),
 rdVar Try.prog M13 32
 (List.length
 (M ++
 [AObj.cells
 [.int .u8 p00,
 .int .u8 p01,
 .int .i16 p02,
 .string p03]
 4 Mode.live]))
 0 =
 some
 (.agg
 (Array.mk
 [.slice a759 n760 n761,
 .slice a762 n763 n764])) ∧
 ∃ (M765 : Mem),
 wrCells M13
 (List.length
 (M ++
 [AObj.cells
 [.int .u8 p00,
 .int .u8 p01,
 .int .i16 p02,
 .string p03]
 4 Mode.live] ++
 [AObj.cells
 [.slice p10 p10n p10c,
 .slice p11 p11n p11c]
 2 Mode.live]))
 0
 [.slice a759 n760 n761,
 .slice a762 n763 n764] =
 some M765 ∧
 ∃ (a766 : Option Addr),
 ∃ (n767 : Nat),
 ∃ (n768 : Nat),
 ∃ (a769 : Option Addr),
 ∃ (n770 : Nat),
 ∃ (n771 : Nat),
 rdVar Try.prog M765 32
 (List.length
 (M ++
 [AObj.cells
 [.int .u8
 p00,
 .int .u8
 p01,
 .int .i16
 p02,
 .string p03]
 4 Mode.live] ++
 [AObj.cells
 [.slice p10 p10n
 p10c,
 .slice p11 p11n
 p11c]
 2 Mode.live]))
 0 =
 some
 (.agg
 (Array.mk
 [.slice a766 n767 n768,
 .slice a769 n770
 n771])) ∧
 K
 (.agg
 (Array.mk
 [.slice a766 n767 n768,
 .slice a769 n770 n771]))
 M765))))))))))))))))) :
 Held (wpRet Try.prog 10 true []
 [.agg (Array.mk [.int .u8 p00, .int .u8 p01, .int .i16 p02, .string p03]),
 .agg (Array.mk [.slice p10 p10n p10c, .slice p11 p11n p11c])]
 M K) := held_of (by kernel_rfl) h

end Go.Proofs.YtabkcbaknjenmaaAM

/-
  THE NODE LAWS: trees in memory; a tree is copied.
-/
set_option linter.unusedVariables false
set_option linter.unusedSimpArgs false
namespace Go.Proofs.YtabkcbaknjenmaaAM
open Go Go.Proofs
set_option maxRecDepth 100000
set_option maxHeartbeats 4000000

/-- A node, as it is. -/
structure Nd where
  kind : Int
  name : ByteArray
  arg : ByteArray
  kids : List Int
  pos : Int
def Nd.v (n : Nd) (ka : Option Addr) (kc : Nat) : List Value := nodeV n.kind n.name n.arg ka n.kids.length kc n.pos
theorem at_of {M : Mem} {x u : Nat} {vs : List Value} (h : M[x]? = some (.cells vs u .live)) : At M x vs := ⟨u, .live, by decide, h⟩
/-- Nodes that may be read. -/
def NdR (M : Mem) : List Nd → List Value → Prop
  | [], cs => cs = []
  | n :: l, cs => ∃ ka kc rest, cs = n.v ka kc ++ rest ∧ SliceR M 1 ka n.kids.length kc (ints n.kids) ∧ NdR M l rest
theorem NdR.keep {M M' : Mem} (k : Keep M M') : ∀ {l : List Nd} {cs : List Value}, NdR M l cs → NdR M' l cs
  | [], _, h => h
  | n :: l, cs, ⟨ka, kc, rest, h1, h2, h3⟩ => ⟨ka, kc, rest, h1, h2.keep k, h3.keep k⟩
theorem Nd.v_len (n : Nd) (ka : Option Addr) (kc : Nat) : (n.v ka kc).length = 5 := rfl
theorem NdR.get {M : Mem} : ∀ {l : List Nd} {cs : List Value}, NdR M l cs → ∀ (k : Nat) (h : k < l.length), ∃ ka kc, (cs.drop (k * 5)).take 5 = l[k].v ka kc ∧ SliceR M 1 ka l[k].kids.length kc (ints l[k].kids)
  | n :: l, cs, ⟨ka, kc, rest, h1, h2, h3⟩, 0, h => ⟨ka, kc, by subst h1; simp [Nd.v, nodeV], h2⟩
  | n :: l, cs, ⟨ka, kc, rest, h1, h2, h3⟩, k + 1, h => by
    obtain ⟨ka', kc', h4, h5⟩ := h3.get k (by simpa using h)
    refine ⟨ka', kc', ?_, by simpa using h5⟩
    subst h1
    rw [show (k + 1) * 5 = 5 + k * 5 by omega, ← List.drop_drop]
    simpa [Nd.v, nodeV] using h4
theorem NdR.len {M : Mem} : ∀ {l : List Nd} {cs : List Value}, NdR M l cs → cs.length = l.length * 5
  | [], cs, h => by have h : cs = [] := h; simp [h]
  | n :: l, cs, ⟨ka, kc, rest, h1, h2, h3⟩ => by subst h1; simp [Nd.v_len, h3.len]; omega

def TreeR (M : Mem) (v : Value) (nds : List Nd) (ds : List Int) : Prop :=
  ∃ na nc da dc cs, v = .agg ⟨[.slice na nds.length nc, .slice da ds.length dc]⟩ ∧ SliceR M 5 na nds.length nc cs ∧ NdR M nds cs ∧ SliceR M 1 da ds.length dc (ints ds)
theorem TreeR.keep {M M' : Mem} {v : Value} {nds : List Nd} {ds : List Int} (h : TreeR M v nds ds) (k : Keep M M') : TreeR M' v nds ds := by
  obtain ⟨na, nc, da, dc, cs, h1, h2, h3, h4⟩ := h
  exact ⟨na, nc, da, dc, cs, h1, h2.keep k, h3.keep k, h4.keep k⟩

/-- An element of a row of more cells. -/
theorem SliceR.elem {M : Mem} {sz n c k : Nat} {a : Option Addr} {l : List Value} (h : SliceR M sz a n c l) (hk : k < n) {ty e : TypeId} (he : elemT Try.prog ty = some e) (hs : sizeT Try.prog e = some sz) {kk : IntKind} {i : Int} (hi : i = Int.ofNat k) :
    ∃ y o, idxA Try.prog ty (.slice a n c) (.int kk i) = some (.pointer (some ⟨y, o, none⟩)) ∧ blk a = [y] ∧ (∀ j v, ((l.drop (k * sz)).take sz)[j]? = some v → cellAt M y (o + j) = some v) ∧
      ∀ ty2, (kindT Try.prog ty2).map aggK = some true → sizeT Try.prog ty2 = some sz → rdVar Try.prog M ty2 y o = some (.agg ⟨(l.drop (k * sz)).take sz⟩) := by
  obtain ⟨h1, h2⟩ := h
  rcases h2 with ⟨_, rfl, _⟩ | ⟨x, o, vs, u, m, rfl, h3, h4, h5, h6⟩
  · omega
  · have hm : k * sz + sz ≤ n * sz := by
      rw [← Nat.succ_mul]; exact Nat.mul_le_mul_right _ hk
    have hsub : (l.drop (k * sz)).take sz = (vs.drop (o + k * sz)).take sz := by
      subst h5
      rw [← List.drop_drop, List.drop_take, List.take_take, Nat.min_eq_left (by omega)]
    refine ⟨x, o + k * sz, idx_of he hs hi hk, rfl, fun j v hj => ?_, fun ty2 hk2 hs2 => ?_⟩
    · rw [hsub, List.getElem?_take] at hj
      split at hj
      · rw [List.getElem?_drop] at hj
        unfold cellAt
        rw [h3]; dsimp only
        rw [if_neg h4]; exact hj
      · simp at hj
    · have hA : At M x vs := ⟨u, m, h4, h3⟩
      rw [hA.rdAt hk2 hs2 (by omega), hsub]
theorem el30 : elemT Try.prog 30 = some 24 := by kernel_rfl
/-- A node of a tree. -/
theorem node_at {M : Mem} {na : Option Addr} {nc : Nat} {nds : List Nd} {cs : List Value} (h : SliceR M 5 na nds.length nc cs) (hR : NdR M nds cs) {k : Nat} (hk : k < nds.length) {i : Int} (hi : i = Int.ofNat k) :
    ∃ y o ka kc, idxA Try.prog 30 (.slice na nds.length nc) (.int .i64 i) = some (.pointer (some ⟨y, o, none⟩)) ∧ blk na = [y] ∧ (∀ j v, (nds[k].v ka kc)[j]? = some v → cellAt M y (o + j) = some v) ∧
      rdVar Try.prog M 24 y o = some (.agg ⟨nds[k].v ka kc⟩) ∧ SliceR M 1 ka nds[k].kids.length kc (ints nds[k].kids) := by
  obtain ⟨y, o, h1, h2, h3, h4⟩ := h.elem hk el30 s24 (kk := .i64) hi
  obtain ⟨ka, kc, h5, h6⟩ := hR.get k hk
  rw [h5] at h3 h4
  exact ⟨y, o, ka, kc, h1, h2, h3, h4 24 k24 s24, h6⟩

/-- Nodes that are one's own: ys are the blocks of their kids. -/
def NdW (M : Mem) : List Nd → List Value → List Nat → Prop
  | [], cs, ys => cs = [] ∧ ys = []
  | n :: l, cs, ys => ∃ y kc rest ys', cs = n.v (some ⟨y, 0, none⟩) kc ++ rest ∧ ys = y :: ys' ∧ M[y]? = some (.cells (ints n.kids) 1 .live) ∧ (kc = capU ∨ kc = n.kids.length) ∧ NdW M l rest ys'
theorem NdW.mod {M M' : Mem} {V : List Nat} (hm : Mod M M' V) : ∀ {l : List Nd} {cs : List Value} {ys : List Nat}, NdW M l cs ys → (∀ y ∈ ys, y ∉ V) → NdW M' l cs ys
  | [], _, _, h, _ => h
  | n :: l, cs, ys, ⟨y, kc, rest, ys', h1, h2, h3, h4, h5⟩, hV => by
    subst h2
    exact ⟨y, kc, rest, ys', h1, rfl, by rw [hm.2 y (List.getElem?_eq_some_iff.1 h3).1 (hV y (by simp))]; exact h3, h4, h5.mod hm (fun z hz => hV z (by simp [hz]))⟩
theorem NdW.read {M : Mem} : ∀ {l : List Nd} {cs : List Value} {ys : List Nat}, NdW M l cs ys → NdR M l cs
  | [], _, _, h => h.1
  | n :: l, cs, ys, ⟨y, kc, rest, ys', h1, h2, h3, h4, h5⟩ => ⟨_, kc, rest, h1, .at_ h3 (by decide) (by simp [ints]), h5.read⟩
theorem NdW.lt {M : Mem} : ∀ {l : List Nd} {cs : List Value} {ys : List Nat}, NdW M l cs ys → ∀ y ∈ ys, y < M.length
  | [], _, _, h, y, hy => by rw [h.2] at hy; simp at hy
  | n :: l, cs, ys, ⟨y', kc, rest, ys', h1, h2, h3, h4, h5⟩, y, hy => by
    subst h2
    rcases List.mem_cons.1 hy with rfl | hy
    · exact (List.getElem?_eq_some_iff.1 h3).1
    · exact h5.lt y hy
theorem NdW.snoc {M : Mem} {n : Nd} {y kc : Nat} (h3 : M[y]? = some (.cells (ints n.kids) 1 .live)) (h4 : kc = capU ∨ kc = n.kids.length) : ∀ {l : List Nd} {cs : List Value} {ys : List Nat}, NdW M l cs ys → NdW M (l ++ [n]) (cs ++ n.v (some ⟨y, 0, none⟩) kc) (ys ++ [y])
  | [], cs, ys, h => by
    obtain ⟨h1, h2⟩ := h
    subst h1; subst h2
    exact ⟨y, kc, [], [], by simp, rfl, h3, h4, rfl, rfl⟩
  | n' :: l, cs, ys, ⟨y', kc', rest, ys', g1, g2, g3, g4, g5⟩ => ⟨y', kc', _, ys' ++ [y], by rw [g1, List.append_assoc], by rw [g2]; rfl, g3, g4, g5.snoc h3 h4⟩

/-- A tree that is one's own. -/
structure WTree (M M' : Mem) (na : Option Addr) (nc : Nat) (z dc : Nat) (cs : List Value) (ys : List Nat) (nds : List Nd) (ds : List Int) : Prop where
  nodes : Own M M' 5 na nds.length nc cs
  kids : NdW M' nds cs ys
  defs : M'[z]? = some (.cells (ints ds) 1 .live)
  dcap : dc = capU ∨ dc = ds.length
  nd : (z :: (blk na ++ ys)).Nodup
  lo : ∀ y ∈ z :: (blk na ++ ys), M.length ≤ y
theorem WTree.read {M M' : Mem} {na : Option Addr} {nc z dc : Nat} {cs : List Value} {ys : List Nat} {nds : List Nd} {ds : List Int} (h : WTree M M' na nc z dc cs ys nds ds) : TreeR M' (.agg ⟨[.slice na nds.length nc, .slice (some ⟨z, 0, none⟩) ds.length dc]⟩) nds ds :=
  ⟨na, nc, _, dc, cs, rfl, h.nodes.slice, h.kids.read, .at_ h.defs (by decide) (by simp [ints])⟩

/-- Appending to a new row of nothing. -/
theorem append_fresh {ty xty e : TypeId} {size bytes : Nat} (E : Elem ty xty e size bytes) {M : Mem} {z m u : Nat} {x : Value} {new : List Value} (hz : M[z]? = some (.cells [] u .live)) (hs : srcA Try.prog M size x = some (m, new)) (hn : new.length = m * size) (h1 : new.all Value.oneCell' = true) (hfit : m * bytes ≤ 140737488355328) (hfit2 : m ≤ 4611686018427387904) (hu : u = size) :
    ∃ y c' G, appendA Try.prog M ty xty (.slice (some ⟨z, 0, none⟩) 0 0) x = some (.slice (some ⟨y, 0, none⟩) m c', M ++ G) ∧ (M ++ G)[y]? = some (.cells new size .live) ∧ (y = z ∨ M.length ≤ y) ∧ (c' = capU ∨ c' = m) := by
  obtain ⟨ze, hze, hz2⟩ := E.ze
  obtain ⟨xk, hxk, hxk2⟩ : ∃ xk, kindT Try.prog xty = some xk ∧ (xk = .slice ∨ xk = .str) := by
    rcases E.xk with h | h
    · exact ⟨_, h, .inl rfl⟩
    · exact ⟨_, h, .inr rfl⟩
  have hcnd : ¬ ((xk ≠ .slice ∧ xk ≠ .str) ∨ size = 0 ∨ ze.cells.size ≠ size) := by
    rintro (⟨h1, h2⟩ | h | h)
    · rcases hxk2 with h | h
      · exact h1 h
      · exact h2 h
    · have := E.pos; omega
    · exact h hz2
  subst hu
  have hcap : (0 : Nat) ≠ capU := by decide
  have key : appendA Try.prog M ty xty (.slice (some ⟨z, 0, none⟩) 0 0) x =
      (if m = 0 then (if 0 ≠ capU → 0 ≤ 0 then some (.slice (some ⟨z, 0, none⟩) 0 0, M) else none)
      else if 0 ≠ capU ∧ 0 + m ≤ 0 then (wrCells M z (0 + 0 * u) new).map fun M' => (.slice (some ⟨z, 0, none⟩) (0 + m) 0, M')
      else if room47 (0 + m) bytes = false ∨ 0 + m > 4611686018427387904 then none
      else if 0 ≠ capU then (rdCells M z 0 (0 * u)).map fun old => (.slice (some ⟨M.length, 0, none⟩) (0 + m) capU, M ++ [.cells (old ++ new) u .live])
      else match M[z]? with
          | some (.cells vs u' .live) => if u' = u ∧ new.all Value.oneCell' = true then (rdCells M z 0 (0 * u)).map fun old => (.slice (some ⟨M.length, 0, none⟩) (0 + m) capU, M.set z (.cells vs u' .dead) ++ [.cells (old ++ new) u .live]) else none
          | _ => none) := by
    unfold appendA
    simp only [E.el, E.sz, E.by_, hze, hxk, hs, Option.bind_some]
    rw [if_neg hcnd]
    rfl
  rw [key]
  by_cases hm : m = 0
  · subst hm
    have : new = [] := List.eq_nil_of_length_eq_zero (by omega)
    subst this
    rw [if_pos rfl, if_pos (fun _ => Nat.le_refl _)]
    exact ⟨z, 0, [], by simp, by simpa using hz, .inl rfl, .inr rfl⟩
  · rw [if_neg hm, if_neg (by omega), if_neg (by simp only [room47, Nat.zero_add, decide_eq_false_iff_not]; omega), if_pos hcap]
    rw [Nat.zero_add, show 0 * u = 0 by omega, rdCells_at hz (by decide) (by simp)]
    refine ⟨M.length, capU, [.cells new u .live], by simp, ?_, .inr (Nat.le_refl _), .inl rfl⟩
    exact get_last _ _

theorem k24' : (kindT Try.prog 24).map aggK = some true := k24
/-- Where the copy stands: k nodes are copied. -/
def CopyInv (M : Mem) (p0 p1 : Value) (z dc u : Nat) (nds : List Nd) (ds : List Int) (n : Nat) (t : Int) (M1 : Mem) : Prop :=
  ∃ k na nc cs ys, t = Int.ofNat k ∧ k + n = nds.length ∧ Keep M M1 ∧ At M1 M.length [p0, p1] ∧ M1[M.length + 1]? = some (.cells [.slice none 0 0, .slice none 0 0] 2 .live) ∧
    M1[u]? = some (.cells [.slice na k nc, .slice (some ⟨z, 0, none⟩) ds.length dc] 2 .live) ∧ WTree M M1 na nc z dc cs ys (nds.take k) ds ∧ M.length + 1 < u ∧ u ∉ z :: (blk na ++ ys) ∧ ∀ y ∈ z :: (blk na ++ ys), M.length + 1 < y

theorem copy_ret {M : Mem} {v : Value} {nds : List Nd} {ds : List Int} (hT : TreeR M v nds ds) (hn : nds.length ≤ 300000) (hd : ds.length ≤ 300000) (hk : ∀ n ∈ nds, n.kids.length ≤ 300000) :
    ∃ na nc z dc cs ys M', Ret Try.prog 24 [v] M (.agg ⟨[.slice na nds.length nc, .slice (some ⟨z, 0, none⟩) ds.length dc]⟩) M' ∧ Keep M M' ∧ WTree M M' na nc z dc cs ys nds ds := by
  obtain ⟨pa, pc, qa, qc, pcs, rfl, hP1, hP2, hP3⟩ := hT
  suffices hh : ∃ v' M', Ret Try.prog 24 [.agg ⟨[.slice pa nds.length pc, .slice qa ds.length qc]⟩] M v' M' ∧ ∃ na nc z dc cs ys, v' = .agg ⟨[.slice na nds.length nc, .slice (some ⟨z, 0, none⟩) ds.length dc]⟩ ∧ Keep M M' ∧ WTree M M' na nc z dc cs ys nds ds by
    obtain ⟨v', M', q1, na, nc, z, dc, cs, ys, rfl, q2, q3⟩ := hh
    exact ⟨na, nc, z, dc, cs, ys, M', q1, q2, q3⟩
  refine Ret.wpH hP (K := fun v' M' => ∃ na nc z dc cs ys, v' = .agg ⟨[.slice na nds.length nc, .slice (some ⟨z, 0, none⟩) ds.length dc]⟩ ∧ Keep M M' ∧ WTree M M' na nc z dc cs ys nds ds)
    (w24 (p00 := pa) (p00n := nds.length) (p00c := pc) (p01 := qa) (p01n := ds.length) (p01c := qc) (M := M) ?_)
  have hA : At (M ++ [AObj.cells [.slice pa nds.length pc, .slice qa ds.length qc] 2 .live] ++ [AObj.cells [.slice none 0 0, .slice none 0 0] 2 .live] ++ [AObj.cells [] 1 .live]) M.length [.slice pa nds.length pc, .slice qa ds.length qc] :=
    ((At.last M _ 2).keep (.app _ _)).keep (.app _ _)
  have hK3 : Keep M (M ++ [AObj.cells [.slice pa nds.length pc, .slice qa ds.length qc] 2 .live] ++ [AObj.cells [.slice none 0 0, .slice none 0 0] 2 .live] ++ [AObj.cells [] 1 .live]) := ((Keep.app _ _).one _).one _
  have hres : (M ++ [AObj.cells [.slice pa nds.length pc, .slice qa ds.length qc] 2 .live] ++ [AObj.cells [.slice none 0 0, .slice none 0 0] 2 .live] ++ [AObj.cells [] 1 .live])[M.length + 1]? = some (.cells [.slice none 0 0, .slice none 0 0] 2 .live) := by
    have := get_last (M ++ [AObj.cells [.slice pa nds.length pc, .slice qa ds.length qc] 2 .live]) (AObj.cells [.slice none 0 0, .slice none 0 0] 2 .live)
    rw [show (M ++ [AObj.cells [.slice pa nds.length pc, .slice qa ds.length qc] 2 .live]).length = M.length + 1 by simp] at this
    exact (Keep.app _ [AObj.cells [] 1 .live]).get this
  have hz : (M ++ [AObj.cells [.slice pa nds.length pc, .slice qa ds.length qc] 2 .live] ++ [AObj.cells [.slice none 0 0, .slice none 0 0] 2 .live] ++ [AObj.cells [] 1 .live])[(M ++ [AObj.cells [.slice pa nds.length pc, .slice qa ds.length qc] 2 .live] ++ [AObj.cells [.slice none 0 0, .slice none 0 0] 2 .live]).length]? = some (.cells [] 1 .live) := get_last _ _
  have hzl : (M ++ [AObj.cells [.slice pa nds.length pc, .slice qa ds.length qc] 2 .live] ++ [AObj.cells [.slice none 0 0, .slice none 0 0] 2 .live]).length = M.length + 2 := by simp
  have hl3 : (M ++ [AObj.cells [.slice pa nds.length pc, .slice qa ds.length qc] 2 .live] ++ [AObj.cells [.slice none 0 0, .slice none 0 0] 2 .live] ++ [AObj.cells [] 1 .live]).length = M.length + 3 := by simp
  have ha1 := hA.rd k22 (o := 1) rfl
  generalize hM3 : M ++ [AObj.cells [.slice pa nds.length pc, .slice qa ds.length qc] 2 .live] ++ [AObj.cells [.slice none 0 0, .slice none 0 0] 2 .live] ++ [AObj.cells [] 1 .live] = M3 at *
  obtain ⟨z, dc, G, q1, q2, q3, q4⟩ := append_fresh E22 hz (hP3.keep hK3).src (by simp [ints]) (by simp [ints, Value.oneCell']) (by omega) (by omega) rfl
  have hz0 : M.length + 2 ≤ z ∧ z < (M3 ++ G).length := ⟨by rcases q3 with h | h <;> omega, (List.getElem?_eq_some_iff.1 q2).1⟩
  have hA6 := hA.keep (.app M3 G)
  have hres6 := (Keep.app M3 G).get hres
  have hK6 := hK3.trans (.app M3 G)
  generalize hM6 : M3 ++ G = M6 at *
  have hwr := wr_last (M := M6) (vs := [.slice none 0 0, .slice none 0 0]) (new := [.slice none 0 0, .slice (some ⟨z, 0, none⟩) ds.length dc]) (u := 2) rfl rfl
  have hl6 : M.length + 3 ≤ M6.length := by rw [← hM6, List.length_append]; omega
  refine ⟨_, _, _, ha1, _, _, _, _, q1, _, hwr, fun _ hT0 => lp_ex1 (loop24_0 (CopyInv M (.slice pa nds.length pc) (.slice qa ds.length qc) z dc M6.length nds ds) (fun M9 => ∃ M', M' = M9 ∧ ∃ n t, CopyInv M (.slice pa nds.length pc) (.slice qa ds.length qc) z dc M6.length nds ds n t M' ∧ n = 0) ?step (n := nds.length)
    ⟨0, none, 0, [], [], rfl, by simp, hK6.one _, hA6.keep (.app _ _), (Keep.app _ _).get hres6, get_last _ _, ⟨⟨hK6.one _, rfl, .inl ⟨rfl, rfl, rfl⟩⟩, ⟨rfl, rfl⟩, (Keep.app _ _).get q2, q4, by simp [blk], fun y hy => by simp [blk] at hy; omega⟩, by omega, by simp [blk]; omega, fun y hy => by simp [blk] at hy; omega⟩ hT0) (fun M9 hE => ?fin)⟩
  case step =>
    rintro n t M1 ⟨k, na, nc, cs, ys, rfl, hkn, hK1, hA1, hr1, hu1, hW, hu, hu2, hy⟩
    refine ⟨_, _, _, hA1.rd k30 rfl, cnd_of (fun hlt => ?_) (fun hge => ?_)⟩
    · have hlt := leF_lt hlt
      obtain ⟨y, o, ka, kc, e1, e2, e3, e4, e5⟩ := node_at (hP1.keep hK1) (hP2.keep hK1) hlt rfl
      have hmem := hk _ (List.getElem_mem hlt)
      have htake : nds.take (k + 1) = nds.take k ++ [nds[k]] := List.take_succ_eq_append_getElem hlt
      generalize nds[k] = nd at *
      have hwr1 := wr_last (M := M1) (vs := [.int .i64 (Int.ofNat 0), .string noText, .string noText, .slice none 0 0, .int .i64 (Int.ofNat 0)]) (new := nd.v ka kc) (u := 5) rfl rfl
      have hA15 : At (M1 ++ [AObj.cells (nd.v ka kc) 5 .live] ++ [AObj.cells [] 1 .live]) M1.length (nd.v ka kc) := (At.last M1 _ 5).keep (.app _ _)
      have hk15 : Keep M1 (M1 ++ [AObj.cells (nd.v ka kc) 5 .live] ++ [AObj.cells [] 1 .live]) := (Keep.app _ _).one _
      have hl15 : (M1 ++ [AObj.cells (nd.v ka kc) 5 .live]).length = M1.length + 1 := by simp
      have ho15 : (M1 ++ [AObj.cells (nd.v ka kc) 5 .live] ++ [AObj.cells [] 1 .live])[M1.length]? = some (.cells (nd.v ka kc) 5 .live) := (Keep.app _ _).get (get_last _ _)
      have hll : (M1 ++ [AObj.cells (nd.v ka kc) 5 .live] ++ [AObj.cells [] 1 .live]).length = M1.length + 2 := by simp
      obtain ⟨y2, c2, G2, g1, g2, g3, g4⟩ := append_fresh E22 (get_last (M1 ++ [AObj.cells (nd.v ka kc) 5 .live]) (AObj.cells [] 1 .live)) (e5.keep hk15).src (by simp [ints]) (by simp [ints, Value.oneCell']) (by omega) (by omega) rfl
      have h22 := (Keep.app _ G2).get ho15
      have hwr2 := wrCells_at h22 (o := 3) (new := [.slice (some ⟨y2, 0, none⟩) nd.kids.length c2]) (by show 3 + 1 ≤ 5; decide) rfl
      have hsp : splice (nd.v ka kc) 3 [.slice (some ⟨y2, 0, none⟩) nd.kids.length c2] = nd.v (some ⟨y2, 0, none⟩) c2 := rfl
      rw [hsp] at hwr2
      have hy2 : M1.length < y2 := by rcases g3 with h | h <;> omega
      have hM22 : Keep M1 (M1 ++ [AObj.cells (nd.v ka kc) 5 .live] ++ [AObj.cells [] 1 .live] ++ G2) := hk15.trans (.app _ _)
      have hrd22 := (hA15.rd k22 (o := 3) rfl)
      generalize hMM : M1 ++ [AObj.cells (nd.v ka kc) 5 .live] ++ [AObj.cells [] 1 .live] ++ G2 = M22 at *
      have h22l := (List.getElem?_eq_some_iff.1 h22).1
      have hM23 : Keep M1 (M22.set M1.length (.cells (nd.v (some ⟨y2, 0, none⟩) c2) 5 .live)) := hM22.set (Nat.le_refl _) _
      have hy23 : (M22.set M1.length (.cells (nd.v (some ⟨y2, 0, none⟩) c2) 5 .live))[y2]? = some (.cells (ints nd.kids) 1 .live) := by
        rw [List.getElem?_set_ne (by omega)]; exact g2
      have hn23 : (M22.set M1.length (.cells (nd.v (some ⟨y2, 0, none⟩) c2) 5 .live))[M1.length]? = some (.cells (nd.v (some ⟨y2, 0, none⟩) c2) 5 .live) := by
        rw [List.getElem?_set]; simp [h22l]
      generalize hMM2 : M22.set M1.length (.cells (nd.v (some ⟨y2, 0, none⟩) c2) 5 .live) = M23 at *
      have hu23 := hM23.get hu1
      have hl23 := (List.getElem?_eq_some_iff.1 hy23).1
      have hO23 : Own [] M23 5 na k nc cs := by
        have := hW.nodes
        rw [List.length_take, Nat.min_eq_left (by omega)] at this
        obtain ⟨a, b, c⟩ := this
        refine ⟨⟨M23, by simp⟩, b, ?_⟩
        rcases c with c | ⟨b', c1, c2, c3, c4⟩
        · exact .inl c
        · exact .inr ⟨b', c1, by simp, hM23.get c3, c4⟩
      obtain ⟨c3, M37, j1, j2, j3, j4, j5⟩ := append_own2 E30 (hO23.keep (.app M23 [AObj.cells (nd.v (some ⟨y2, 0, none⟩) c2) 5 .live])) (src_at (n := 1) (c := 1) (get_last M23 _) rfl) rfl rfl (by omega) (by omega) (by decide)
      have hmod : Mod M1 M37 (blk na) := ⟨by have := hM23.len; have := j3.1; simp at this; omega, fun x hx hn => by
        rw [j3.2 x (by have := hM23.len; simp; omega) hn, List.getElem?_append_left (by have := hM23.len; omega), hM23.same hx]⟩
      have hmod23 : Mod M23 M37 (blk na) := ⟨by have := j3.1; simp at this; omega, fun x hx hn => by
        rw [j3.2 x (by simp; omega) hn, List.getElem?_append_left hx]⟩
      have hul := (List.getElem?_eq_some_iff.1 hu1).1
      have hnal : ∀ x ∈ blk na, x < M1.length := hW.nodes.lt
      have hysl : ∀ x ∈ ys, x < M1.length := hW.kids.lt
      have hzl1 := (List.getElem?_eq_some_iff.1 hW.defs).1
      have hu37 : M37[M6.length]? = some (.cells [.slice na k nc, .slice (some ⟨z, 0, none⟩) ds.length dc] 2 .live) := by
        rw [hmod.2 _ hul (fun h => hu2 (by simp [h]))]; exact hu1
      have hul37 := (List.getElem?_eq_some_iff.1 hu37).1
      have hwr3 := wrCells_at hu37 (o := 0) (new := [.slice (some ⟨(M23 ++ [AObj.cells (nd.v (some ⟨y2, 0, none⟩) c2) 5 .live]).length, 0, none⟩) (k + 1) c3]) (by show 0 + 1 ≤ 2; decide) rfl
      have hlb : (M23 ++ [AObj.cells (nd.v (some ⟨y2, 0, none⟩) c2) 5 .live]).length = M23.length + 1 := by simp
      have hset : Mod M37 (M37.set M6.length (.cells (splice [.slice na k nc, .slice (some ⟨z, 0, none⟩) ds.length dc] 0 [.slice (some ⟨(M23 ++ [AObj.cells (nd.v (some ⟨y2, 0, none⟩) c2) 5 .live]).length, 0, none⟩) (k + 1) c3]) 2 .live)) [M6.length] := Mod.set _ _ _ (by simp)
      have hspl : splice [.slice na k nc, .slice (some ⟨z, 0, none⟩) ds.length dc] 0 [.slice (some ⟨(M23 ++ [AObj.cells (nd.v (some ⟨y2, 0, none⟩) c2) 5 .live]).length, 0, none⟩) (k + 1) c3] = [.slice (some ⟨M23.length + 1, 0, none⟩) (k + 1) c3, .slice (some ⟨z, 0, none⟩) ds.length dc] := by rw [hlb]; rfl
      rw [hspl] at hset hwr3
      have hmodT : Mod M1 (M37.set M6.length (.cells [.slice (some ⟨M23.length + 1, 0, none⟩) (k + 1) c3, .slice (some ⟨z, 0, none⟩) ds.length dc] 2 .live)) (M6.length :: blk na) := by
        have h1 : Mod M1 M37 (M6.length :: blk na) := ⟨hmod.1, fun x hx hn => hmod.2 x hx (fun h => hn (by simp [h]))⟩
        exact h1.trans hset (fun x hx => .inl (by simp at hx; simp [hx]))
      have hlo : ∀ x ∈ M6.length :: blk na, M.length + 1 < x := by
        intro x hx
        rcases List.mem_cons.1 hx with rfl | hx
        · exact hu
        · exact hy x (by simp [hx])
      have hK38 := hK1.mod hmodT (fun x hx => by have := hlo x hx; omega)
      have hnotin : ∀ x, x ≤ M.length + 1 → x ∉ M6.length :: blk na := fun x hx h => by have := hlo x h; omega
      have hnd := hW.nd
      have hnd' := List.nodup_cons.1 hnd
      have hnd2 := List.nodup_append.1 hnd'.2
      have hzn : z ∉ M6.length :: blk na := fun h => by
        rcases List.mem_cons.1 h with h | h
        · exact hu2 (by simp [h])
        · exact hnd'.1 (by simp [h])
      have hyn : ∀ x ∈ ys, x ∉ M6.length :: blk na := fun x hx h => by
        rcases List.mem_cons.1 h with h | h
        · exact hu2 (by simp [← h, hx])
        · exact hnd2.2.2 x h x hx rfl
      have hy2n : y2 ∉ M6.length :: blk na := fun h => by
        rcases List.mem_cons.1 h with h | h
        · omega
        · have := hnal y2 h; omega
      have hy38 : (M37.set M6.length (.cells [.slice (some ⟨M23.length + 1, 0, none⟩) (k + 1) c3, .slice (some ⟨z, 0, none⟩) ds.length dc] 2 .live))[y2]? = some (.cells (ints nd.kids) 1 .live) := by
        rw [List.getElem?_set_ne (by omega), hmod23.2 y2 hl23 (fun h => hy2n (by simp [h]))]; exact hy23
      refine ⟨_, _, _, hA1.rd k30 rfl, _, _, e1, _, _, _, _, _, _, _, e4, _, hwr1, _, _, _, hrd22, _, _, _, _, g1, _, hwr2, _, _, _, (at_of hu23).rd k30 rfl, _, _, _, _, _, _, _, (at_of hn23).rdA k24 s24, _, _, _, _, j1, _, hwr3, n - 1, by omega,
        k + 1, some ⟨M23.length + 1, 0, none⟩, c3, cs ++ nd.v (some ⟨y2, 0, none⟩) c2, ys ++ [y2], add64 (by omega), by omega, hK38, hmodT.at_ hA1 (hnotin _ (by omega)), ?_, ?_, ⟨?_, ?_, ?_, hW.dcap, ?_, ?_⟩, hu, ?_, ?_⟩
      · rw [hmodT.2 _ (by have := hA1.lt; omega) (hnotin _ (Nat.le_refl _))]; exact hr1
      · rw [List.getElem?_set]; simp [hul37]
      · obtain ⟨a, b, c⟩ := j2
        rw [hlb] at c
        refine ⟨hK38, by rw [b, htake, List.length_append, List.length_take, Nat.min_eq_left (by omega)]; rfl, ?_⟩
        rcases c with ⟨c, _⟩ | ⟨b', c1, c2, c3, c4⟩
        · simp at c
        · refine .inr ⟨b', c1, ?_, ?_, ?_⟩
          · simp at c1; have := hM23.len; have := hK1.len; omega
          · simp at c1; rw [List.getElem?_set_ne (by have := hM23.len; omega)]; exact c3
          · rw [htake, List.length_append, List.length_take, Nat.min_eq_left (by omega)]; exact c4
      · rw [htake]
        exact (hW.kids.mod hmodT hyn).snoc hy38 g4
      · rw [hmodT.2 z hzl1 hzn]; exact hW.defs
      · refine List.nodup_cons.2 ⟨?_, ?_⟩
        · simp only [blk, List.mem_append, List.mem_singleton]
          have := hM23.len
          rintro (h | h | h)
          · omega
          · exact hnd'.1 (by simp [h])
          · omega
        · simp only [blk]
          have := hM23.len
          refine List.nodup_append.2 ⟨by simp, List.nodup_append.2 ⟨hnd2.2.1, by simp, ?_⟩, ?_⟩
          · intro a ha b hb e
            simp at hb
            have := hysl a ha; omega
          · intro a ha b hb e
            simp only [List.mem_append, List.mem_singleton] at ha hb
            rcases hb with hb | hb
            · have := hysl b hb; omega
            · omega
      · intro x hx
        have := hM23.len
        have := hK1.len
        simp only [blk, List.mem_cons, List.mem_append, List.mem_singleton, List.not_mem_nil, or_false] at hx
        rcases hx with h | h | h | h
        · subst h; exact hW.lo _ (by simp)
        · omega
        · exact hW.lo _ (by simp [h])
        · omega
      · simp only [blk, List.mem_cons, List.mem_append, List.mem_singleton, List.not_mem_nil, or_false]
        have := hM23.len
        rintro (h | h | h | h)
        · exact hu2 (by simp [h])
        · omega
        · exact hu2 (by simp [h])
        · omega
      · intro x hx
        have := hM23.len
        have := hA1.lt
        simp only [blk, List.mem_cons, List.mem_append, List.mem_singleton, List.not_mem_nil, or_false] at hx
        rcases hx with h | h | h | h
        · exact hy x (by simp [h])
        · omega
        · exact hy x (by simp [h])
        · omega
    · have hge := leF_ge hge
      exact ⟨M1, rfl, n, _, ⟨k, na, nc, cs, ys, rfl, hkn, hK1, hA1, hr1, hu1, hW, hu, hu2, hy⟩, by omega⟩
  case fin =>
    obtain ⟨M7, rfl, n, t, ⟨k, na, nc, cs, ys, rfl, hkn, hK1, hA1, hr1, hu1, hW, hu, hu2, hy⟩, rfl⟩ := hE
    have hk0 : k = nds.length := by omega
    subst hk0
    rw [List.take_length] at hW
    have hwr9 := wrCells_at hr1 (o := 0) (new := [.slice na nds.length nc, .slice (some ⟨z, 0, none⟩) ds.length dc]) (by show 0 + 2 ≤ 2; decide) rfl
    have hrl := (List.getElem?_eq_some_iff.1 hr1).1
    have hsp : splice [.slice none 0 0, .slice none 0 0] 0 [.slice na nds.length nc, .slice (some ⟨z, 0, none⟩) ds.length dc] = [.slice na nds.length nc, .slice (some ⟨z, 0, none⟩) ds.length dc] := rfl
    rw [hsp] at hwr9
    have hl1 : (M ++ [AObj.cells [.slice pa nds.length pc, .slice qa ds.length qc] 2 .live]).length = M.length + 1 := by simp
    have hm : Mod M7 (M7.set (M.length + 1) (.cells [.slice na nds.length nc, .slice (some ⟨z, 0, none⟩) ds.length dc] 2 .live)) [M.length + 1] := Mod.set _ _ _ (by simp)
    have hK16 := hK1.mod hm (fun x hx => by simp at hx; omega)
    have hset : (M7.set (M.length + 1) (.cells [.slice na nds.length nc, .slice (some ⟨z, 0, none⟩) ds.length dc] 2 .live))[M.length + 1]? = some (.cells [.slice na nds.length nc, .slice (some ⟨z, 0, none⟩) ds.length dc] 2 .live) := by
      rw [List.getElem?_set]; simp [hrl]
    rw [hl1]
    have hno : ∀ x ∈ z :: (blk na ++ ys), x ∉ [M.length + 1] := fun x hx h => by have := hy x hx; simp at h; omega
    exact ⟨_, _, _, _, _, _, (at_of hu1).rdA k32 s32, _, hwr9, _, _, _, _, _, _, (at_of hset).rdA k32 s32, na, nc, z, dc, cs, ys, rfl, hK16,
      ⟨hW.nodes.mod hK16 hm (fun x hx => hno x (by simp [hx])), hW.kids.mod hm (fun x hx => hno x (by simp [hx])), by rw [hm.2 z (List.getElem?_eq_some_iff.1 hW.defs).1 (hno z (by simp))]; exact hW.defs, hW.dcap, hW.nd, hW.lo⟩⟩

end Go.Proofs.YtabkcbaknjenmaaAM

/-
  THE NODE LAWS: a tree that is turned: steps.
-/
set_option linter.unusedVariables false
set_option linter.unusedSimpArgs false
namespace Go.Proofs.YtabkcbaknjenmaaAM
open Go Go.Proofs
set_option maxRecDepth 100000
set_option maxHeartbeats 4000000

/-- Nodes that may be read; all that they have lies from lo on. -/
def NdRL (lo : Nat) (M : Mem) : List Nd → List Value → Prop
  | [], cs => cs = []
  | n :: l, cs => ∃ ka kc rest, cs = n.v ka kc ++ rest ∧ SliceR M 1 ka n.kids.length kc (ints n.kids) ∧ (∀ y ∈ blk ka, lo ≤ y) ∧ NdRL lo M l rest
theorem NdRL.read {lo : Nat} {M : Mem} : ∀ {l : List Nd} {cs : List Value}, NdRL lo M l cs → NdR M l cs
  | [], _, h => h
  | n :: l, cs, ⟨ka, kc, rest, h1, h2, h3, h4⟩ => ⟨ka, kc, rest, h1, h2, h4.read⟩
theorem NdRL.mod {lo : Nat} {M M' : Mem} {V : List Nat} (hm : Mod M M' V) (hV : ∀ y ∈ V, y < lo) : ∀ {l : List Nd} {cs : List Value}, NdRL lo M l cs → NdRL lo M' l cs
  | [], _, h => h
  | n :: l, cs, ⟨ka, kc, rest, h1, h2, h3, h4⟩ => ⟨ka, kc, rest, h1, h2.mod hm (fun y hy hv => by have := h3 y hy; have := hV y hv; omega), h3, h4.mod hm hV⟩
theorem NdW.toL {lo : Nat} {M M' : Mem} {V : List Nat} (hm : Mod M M' V) : ∀ {l : List Nd} {cs : List Value} {ys : List Nat}, NdW M l cs ys → (∀ y ∈ ys, lo ≤ y ∧ y ∉ V) → NdRL lo M' l cs
  | [], _, _, h, _ => h.1
  | n :: l, cs, ys, ⟨y, kc, rest, ys', h1, h2, h3, h4, h5⟩, hV => by
    subst h2
    refine ⟨_, kc, rest, h1, .at_ (u := 1) (m := .live) ?_ (by decide) (by simp [ints]), fun z hz => ?_, h5.toL hm (fun z hz => hV z (by simp [hz]))⟩
    · rw [hm.2 y (List.getElem?_eq_some_iff.1 h3).1 (hV y (by simp)).2]; exact h3
    · simp [blk] at hz; subst hz; exact (hV z (by simp)).1
theorem splice_head {a b : List Value} {j : Nat} {v : Value} (hj : j < a.length) : splice (a ++ b) j [v] = splice a j [v] ++ b := by
  unfold splice
  rw [List.take_append_of_le_length (by omega), List.drop_append_of_le_length (by simp; omega)]
  simp
theorem splice_tail {a b : List Value} {j : Nat} {v : Value} : splice (a ++ b) (a.length + j) [v] = a ++ splice b j [v] := by
  unfold splice
  rw [List.take_append, List.drop_append]
  have h1 : a.take (a.length + j) = a := List.take_of_length_le (by omega)
  have h2 : a.drop (a.length + j + [v].length) = [] := List.drop_eq_nil_of_le (by omega)
  rw [h1, h2, show a.length + j - a.length = j by omega, show a.length + j + [v].length - a.length = j + [v].length by omega]
  simp
/-- One node is another one; of the others' kids nothing has turned. -/
theorem NdW.upd {lo : Nat} {M M' : Mem} {V : List Nat} (hm : Mod M M' V) {j : Nat} {v : Value} {nd' : Nd} (hj : j < 5) : ∀ {l : List Nd} {cs : List Value} {ys : List Nat} {k : Nat} (hk : k < l.length), NdW M l cs ys → ys.Nodup → (∀ y ∈ ys, lo ≤ y) → (∀ y ∈ V, ys[k]? = some y ∨ y ∉ ys) →
    (∀ y kc, ys[k]? = some y → (cs.drop (k * 5)).take 5 = l[k].v (some ⟨y, 0, none⟩) kc → ∃ ka' kc', splice (l[k].v (some ⟨y, 0, none⟩) kc) j [v] = nd'.v ka' kc' ∧ SliceR M' 1 ka' nd'.kids.length kc' (ints nd'.kids) ∧ ∀ z ∈ blk ka', lo ≤ z) →
    NdRL lo M' (l.set k nd') (splice cs (k * 5 + j) [v])
  | n :: l, cs, ys, 0, hk, ⟨y, kc, rest, ys', h1, h2, h3, h4, h5⟩, hnd, hlo, hV, hv => by
    subst h1; subst h2
    obtain ⟨ka', kc', g1, g2, g3⟩ := hv y kc rfl (by simp [Nd.v, nodeV])
    have hnd' := List.nodup_cons.1 hnd
    rw [show 0 * 5 + j = j by omega, splice_head (by rw [Nd.v_len]; exact hj)]
    have g1 : splice (n.v (some ⟨y, 0, none⟩) kc) j [v] = nd'.v ka' kc' := g1
    rw [g1]
    refine ⟨ka', kc', rest, rfl, g2, g3, h5.toL hm fun z hz => ⟨hlo z (by simp [hz]), fun hzv => ?_⟩⟩
    rcases hV z hzv with h | h
    · simp at h; subst h; exact hnd'.1 hz
    · exact h (by simp [hz])
  | n :: l, cs, ys, k + 1, hk, ⟨y, kc, rest, ys', h1, h2, h3, h4, h5⟩, hnd, hlo, hV, hv => by
    subst h1; subst h2
    have hnd' := List.nodup_cons.1 hnd
    have hk' : k < l.length := by simpa using hk
    have e : (k + 1) * 5 + j = (n.v (some ⟨y, 0, none⟩) kc).length + (k * 5 + j) := by rw [Nd.v_len]; omega
    rw [e, splice_tail]
    refine ⟨_, kc, _, rfl, .at_ (u := 1) (m := .live) ?_ (by decide) (by simp [ints]), fun z hz => ?_, h5.upd hm hj hk' hnd'.2 (fun z hz => hlo z (by simp [hz])) (fun z hz => ?_) (fun y' kc' hy' hc => ?_)⟩
    · rw [hm.2 y (List.getElem?_eq_some_iff.1 h3).1 (fun hv => ?_)]
      · exact h3
      · rcases hV y hv with h | h
        · simp at h
          exact hnd'.1 (List.mem_of_getElem? h)
        · exact h (by simp)
    · simp [blk] at hz; subst hz; exact hlo z (by simp)
    · rcases hV z hz with h | h
      · exact .inl (by simpa using h)
      · exact .inr fun hh => h (by simp [hh])
    · have := hv y' kc' (by simpa using hy') (by
        rw [show (k + 1) * 5 = (n.v (some ⟨y, 0, none⟩) kc).length + k * 5 by rw [Nd.v_len]; omega, ← List.drop_drop, List.drop_left]
        simpa using hc)
      simpa using this
theorem NdW.get {M : Mem} : ∀ {l : List Nd} {cs : List Value} {ys : List Nat}, NdW M l cs ys → ∀ (k : Nat) (hk : k < l.length), ∃ y kc, ys[k]? = some y ∧ (cs.drop (k * 5)).take 5 = l[k].v (some ⟨y, 0, none⟩) kc ∧ M[y]? = some (.cells (ints l[k].kids) 1 .live) ∧ (kc = capU ∨ kc = l[k].kids.length)
  | n :: l, cs, ys, ⟨y, kc, rest, ys', h1, h2, h3, h4, h5⟩, 0, hk => by
    subst h1; subst h2
    exact ⟨y, kc, rfl, by simp [Nd.v, nodeV], h3, h4⟩
  | n :: l, cs, ys, ⟨y, kc, rest, ys', h1, h2, h3, h4, h5⟩, k + 1, hk => by
    subst h1; subst h2
    obtain ⟨y', kc', g1, g2, g3, g4⟩ := h5.get k (by simpa using hk)
    refine ⟨y', kc', by simpa using g1, ?_, by simpa using g3, by simpa using g4⟩
    rw [show (k + 1) * 5 = (n.v (some ⟨y, 0, none⟩) kc).length + k * 5 by rw [Nd.v_len]; omega, ← List.drop_drop, List.drop_left]
    simpa using g2
theorem splice_same {cs : List Value} {o : Nat} {v : Value} (h : cs[o]? = some v) : splice cs o [v] = cs := by
  unfold splice
  obtain ⟨hlt, h⟩ := List.getElem?_eq_some_iff.1 h
  have : cs.drop o = v :: cs.drop (o + 1) := by rw [List.drop_eq_getElem_cons hlt, h]
  conv => rhs; rw [← List.take_append_drop o cs, this]
  simp

/-- Sizes. -/
def Sz (b : Nat) (nds : List Nd) (ds : List Int) : Prop := nds.length ≤ b ∧ ds.length ≤ b ∧ ∀ n ∈ nds, n.name.size ≤ 1000 ∧ n.arg.size ≤ 1000 ∧ n.kids.length ≤ b
theorem Sz.set {b b' : Nat} {nds : List Nd} {ds : List Int} (h : Sz b nds ds) (hb : b ≤ b') {k : Nat} {nd : Nd} (hn : nd.name.size ≤ 1000 ∧ nd.arg.size ≤ 1000 ∧ nd.kids.length ≤ b') : Sz b' (nds.set k nd) ds := by
  obtain ⟨h1, h2, h3⟩ := h
  refine ⟨by simp; omega, by omega, fun n hm => ?_⟩
  rcases List.mem_or_eq_of_mem_set hm with h | h
  · have := h3 n h; exact ⟨this.1, this.2.1, by omega⟩
  · subst h; exact hn
theorem Sz.mono {b b' : Nat} {nds : List Nd} {ds : List Int} (h : Sz b nds ds) (hb : b ≤ b') : Sz b' nds ds := by
  obtain ⟨h1, h2, h3⟩ := h
  exact ⟨by omega, by omega, fun n hm => ⟨(h3 n hm).1, (h3 n hm).2.1, by have := (h3 n hm).2.2; omega⟩⟩

def TurnedK (M : Mem) (b : Nat) (v : Value) (M' : Mem) : Prop := Keep M M' ∧ ∃ nds ds, TreeR M' v nds ds ∧ Sz b nds ds
theorem turned_fin {M M' : Mem} {na da : Option Addr} {nc dc B : Nat} {nds : List Nd} {ds : List Int} {cs : List Value} (hk : Keep M M') {x1 x2 : Nat} (hx1 : x1 = M.length + 1) (hx2 : x2 = M.length + 2) (ht : M'[x1]? = some (.cells [.slice na nds.length nc, .slice da ds.length dc] 2 .live))
    (hr : M'[x2]? = some (.cells [.slice none 0 0, .slice none 0 0] 2 .live)) (h1 : SliceR M' 5 na nds.length nc cs) (h1' : ∀ y ∈ blk na, M.length + 3 ≤ y) (h2 : NdRL (M.length + 3) M' nds cs) (h3 : SliceR M' 1 da ds.length dc (ints ds)) (h3' : ∀ y ∈ blk da, M.length + 3 ≤ y) (hs : Sz B nds ds) :
    ∃ a53 n54 n55 a56 n57 n58, rdVar Try.prog M' 32 x1 0 = some (.agg ⟨[.slice a53 n54 n55, .slice a56 n57 n58]⟩) ∧ ∃ M59, wrCells M' x2 0 [.slice a53 n54 n55, .slice a56 n57 n58] = some M59 ∧
      ∃ a60 n61 n62 a63 n64 n65, rdVar Try.prog M59 32 x2 0 = some (.agg ⟨[.slice a60 n61 n62, .slice a63 n64 n65]⟩) ∧ TurnedK M B (.agg ⟨[.slice a60 n61 n62, .slice a63 n64 n65]⟩) M59 := by
  have hwr := wrCells_at hr (o := 0) (new := [.slice na nds.length nc, .slice da ds.length dc]) (by show 0 + 2 ≤ 2; decide) rfl
  have hsp : splice [.slice none 0 0, .slice none 0 0] 0 [.slice na nds.length nc, .slice da ds.length dc] = [.slice na nds.length nc, .slice da ds.length dc] := rfl
  rw [hsp] at hwr
  have hrl := (List.getElem?_eq_some_iff.1 hr).1
  have hm : Mod M' (M'.set x2 (.cells [.slice na nds.length nc, .slice da ds.length dc] 2 .live)) [x2] := Mod.set _ _ _ (by simp)
  have hset : (M'.set x2 (.cells [.slice na nds.length nc, .slice da ds.length dc] 2 .live))[x2]? = some (.cells [.slice na nds.length nc, .slice da ds.length dc] 2 .live) := by
    rw [List.getElem?_set]; simp [hrl]
  exact ⟨_, _, _, _, _, _, (at_of ht).rdA k32 s32, _, hwr, _, _, _, _, _, _, (at_of hset).rdA k32 s32, hk.mod hm (fun y hy => by simp at hy; omega), nds, ds,
    ⟨na, nc, da, dc, cs, rfl, h1.mod hm (fun y hy hv => by have := h1' y hy; simp at hv; omega), (h2.mod hm (fun y hy => by simp at hy; omega)).read, h3.mod hm (fun y hy hv => by have := h3' y hy; simp at hv; omega)⟩, hs⟩

/-- The state of Turned behind its copy. -/
structure TSt (M M1 : Mem) (B : Nat) (p0 p1 p2 : Int) (p3 : ByteArray) (na : Option Addr) (nc z dc : Nat) (cs : List Value) (ys : List Nat) (nds : List Nd) (ds : List Int) : Prop where
  keep : Keep M M1
  x : At M1 M.length [.int .u8 p0, .int .u8 p1, .int .i16 p2, .string p3]
  t : M1[M.length + 1]? = some (.cells [.slice na nds.length nc, .slice (some ⟨z, 0, none⟩) ds.length dc] 2 .live)
  r : M1[M.length + 2]? = some (.cells [.slice none 0 0, .slice none 0 0] 2 .live)
  w : WTree M M1 na nc z dc cs ys nds ds
  lo : ∀ y ∈ z :: (blk na ++ ys), M.length + 3 ≤ y
  sz : Sz B nds ds
theorem TSt.defsS {M M1 : Mem} {B : Nat} {p0 p1 p2 : Int} {p3 : ByteArray} {na : Option Addr} {nc z dc : Nat} {cs : List Value} {ys : List Nat} {nds : List Nd} {ds : List Int} (h : TSt M M1 B p0 p1 p2 p3 na nc z dc cs ys nds ds) {M2 : Mem} {V : List Nat} (hm : Mod M1 M2 V) (hz : z ∉ V) : SliceR M2 1 (some ⟨z, 0, none⟩) ds.length dc (ints ds) := by
  refine .at_ (u := 1) (m := .live) ?_ (by decide) (by simp [ints])
  rw [hm.2 z (List.getElem?_eq_some_iff.1 h.w.defs).1 hz]; exact h.w.defs
theorem TSt.same {M M1 : Mem} {B : Nat} {p0 p1 p2 : Int} {p3 : ByteArray} {na : Option Addr} {nc z dc : Nat} {cs : List Value} {ys : List Nat} {nds : List Nd} {ds : List Int} (h : TSt M M1 B p0 p1 p2 p3 na nc z dc cs ys nds ds) {x1 x2 : Nat} (hx1 : x1 = M.length + 1) (hx2 : x2 = M.length + 2) :
    ∃ a53 n54 n55 a56 n57 n58, rdVar Try.prog M1 32 x1 0 = some (.agg ⟨[.slice a53 n54 n55, .slice a56 n57 n58]⟩) ∧ ∃ M59, wrCells M1 x2 0 [.slice a53 n54 n55, .slice a56 n57 n58] = some M59 ∧
      ∃ a60 n61 n62 a63 n64 n65, rdVar Try.prog M59 32 x2 0 = some (.agg ⟨[.slice a60 n61 n62, .slice a63 n64 n65]⟩) ∧ TurnedK M (B + 1) (.agg ⟨[.slice a60 n61 n62, .slice a63 n64 n65]⟩) M59 :=
  turned_fin h.keep hx1 hx2 (by rw [hx1]; exact h.t) (by rw [hx2]; exact h.r) h.w.nodes.slice (fun y hy => h.lo y (by simp [hy])) (h.w.kids.toL (.refl _ []) (fun y hy => ⟨h.lo y (by simp [hy]), by simp⟩)) (h.defsS (.refl _ []) (by simp)) (fun y hy => by simp [blk] at hy; subst hy; exact h.lo y (by simp)) (h.sz.mono (by omega))

/-- A cell of a node is written. -/
theorem TSt.node {M M1 : Mem} {B : Nat} {p0 p1 p2 : Int} {p3 : ByteArray} {na : Option Addr} {nc z dc : Nat} {cs : List Value} {ys : List Nat} {nds : List Nd} {ds : List Int} (h : TSt M M1 B p0 p1 p2 p3 na nc z dc cs ys nds ds) {k : Nat} (hk : k < nds.length) {M2 : Mem} {V : List Nat} (hm : Mod M1 M2 V)
    (hV : ∀ y ∈ V, ys[k]? = some y ∨ y ∉ ys) (hV2 : ∀ y ∈ V, M.length + 3 ≤ y) (hV3 : z ∉ V) {b : Nat} (hb : na = some ⟨b, 0, none⟩) (hVb : b ∉ V) {j : Nat} (hj : j < 5) {v : Value} (hv1 : Value.oneCell' v = true) {nd' : Nd}
    (hv : ∀ y kc, ys[k]? = some y → (cs.drop (k * 5)).take 5 = nds[k].v (some ⟨y, 0, none⟩) kc → ∃ ka' kc', splice (nds[k].v (some ⟨y, 0, none⟩) kc) j [v] = nd'.v ka' kc' ∧ SliceR M2 1 ka' nd'.kids.length kc' (ints nd'.kids) ∧ ∀ z ∈ blk ka', M.length + 3 ≤ z ∧ z ≠ b)
    (hs : nd'.name.size ≤ 1000 ∧ nd'.arg.size ≤ 1000 ∧ nd'.kids.length ≤ B + 1) {x1 x2 : Nat} (hx1 : x1 = M.length + 1) (hx2 : x2 = M.length + 2) :
    ∃ M3, wrCells M2 b (k * 5 + j) [v] = some M3 ∧ ∃ a53 n54 n55 a56 n57 n58, rdVar Try.prog M3 32 x1 0 = some (.agg ⟨[.slice a53 n54 n55, .slice a56 n57 n58]⟩) ∧ ∃ M59, wrCells M3 x2 0 [.slice a53 n54 n55, .slice a56 n57 n58] = some M59 ∧
      ∃ a60 n61 n62 a63 n64 n65, rdVar Try.prog M59 32 x2 0 = some (.agg ⟨[.slice a60 n61 n62, .slice a63 n64 n65]⟩) ∧ TurnedK M (B + 1) (.agg ⟨[.slice a60 n61 n62, .slice a63 n64 n65]⟩) M59 := by
  subst hb
  obtain ⟨hO1, hO2, hO3⟩ := h.w.nodes
  have hbM : M1[b]? = some (.cells cs 5 .live) ∧ (nc = capU ∨ nc = nds.length) := by
    rcases hO3 with ⟨e, _⟩ | ⟨b', e, _, e2, e3⟩
    · simp at e
    · simp at e; subst e; exact ⟨e2, e3⟩
  have hb2 : M2[b]? = some (.cells cs 5 .live) := by rw [hm.2 b (List.getElem?_eq_some_iff.1 hbM.1).1 hVb]; exact hbM.1
  have hwr := wrCells_at hb2 (o := k * 5 + j) (new := [v]) (by simp; omega) (by simp [hv1])
  have hbl := (List.getElem?_eq_some_iff.1 hb2).1
  have hm2 : Mod M2 (M2.set b (.cells (splice cs (k * 5 + j) [v]) 5 .live)) [b] := Mod.set _ _ _ (by simp)
  have hmT : Mod M1 (M2.set b (.cells (splice cs (k * 5 + j) [v]) 5 .live)) (b :: V) := by
    have h1 : Mod M1 M2 (b :: V) := ⟨hm.1, fun x hx hn => hm.2 x hx (fun hh => hn (by simp [hh]))⟩
    exact h1.trans hm2 (fun x hx => .inl (by simp at hx; simp [hx]))
  have hblo : M.length + 3 ≤ b := h.lo b (by simp [blk])
  have hndn := List.nodup_cons.1 h.w.nd
  have hnd2 := List.nodup_append.1 hndn.2
  have hlow : ∀ x, x ≤ M.length + 2 → x ∉ b :: V := fun x hx hh => by
    rcases List.mem_cons.1 hh with e | e
    · omega
    · have := hV2 x e; omega
  have hby : b ∉ ys := fun hh => hnd2.2.2 b (by simp [blk]) b hh rfl
  have hset : (M2.set b (.cells (splice cs (k * 5 + j) [v]) 5 .live))[b]? = some (.cells (splice cs (k * 5 + j) [v]) 5 .live) := by
    rw [List.getElem?_set]; simp [hbl]
  have hsl : (splice cs (k * 5 + j) [v]).length = nds.length * 5 := by
    unfold splice; simp; omega
  refine ⟨_, hwr, turned_fin (nds := nds.set k nd') (ds := ds) (cs := splice cs (k * 5 + j) [v]) (na := some ⟨b, 0, none⟩) (nc := nc) (da := some ⟨z, 0, none⟩) (dc := dc) (h.keep.mod hmT (fun y hy => by
    rcases List.mem_cons.1 hy with e | e
    · omega
    · have := hV2 y e; omega)) hx1 hx2 ?_ ?_ ?_ (fun y hy => by simp [blk] at hy; omega) ?_ ?_ (fun y hy => by simp [blk] at hy; subst hy; exact h.lo y (by simp)) (h.sz.set (by omega) hs)⟩
  · rw [hx1, hmT.2 _ (List.getElem?_eq_some_iff.1 h.t).1 (hlow _ (by omega)), h.t]; simp
  · rw [hx2, hmT.2 _ (List.getElem?_eq_some_iff.1 h.r).1 (hlow _ (by omega))]; exact h.r
  · exact .at_ hset (by decide) (by rw [hsl]; simp)
  · have e1 : NdRL (M.length + 3) (M2.set b (.cells (splice cs (k * 5 + j) [v]) 5 .live)) (nds.set k nd') (splice cs (k * 5 + j) [v]) := by
      refine h.w.kids.upd hmT hj hk hnd2.2.1 (fun y hy => h.lo y (by simp [hy])) (fun y hy => ?_) (fun y kc hy hc => ?_)
      · rcases List.mem_cons.1 hy with e | e
        · subst e; exact .inr hby
        · exact hV y e
      · obtain ⟨ka', kc', g1, g2, g3⟩ := hv y kc hy hc
        exact ⟨ka', kc', g1, g2.mod hm2 (fun z hz hh => (g3 z hz).2 (by simpa using hh)), fun z hz => (g3 z hz).1⟩
    exact e1
  · exact h.defsS hmT (fun hh => by
      rcases List.mem_cons.1 hh with e | e
      · exact hndn.1 (by simp [blk, e])
      · exact hV3 e)

end Go.Proofs.YtabkcbaknjenmaaAM

/-
  THE NODE LAWS: a tree that is turned: each way.
-/
set_option linter.unusedVariables false
set_option linter.unusedSimpArgs false
namespace Go.Proofs.YtabkcbaknjenmaaAM
open Go Go.Proofs
set_option maxRecDepth 100000
set_option maxHeartbeats 4000000

theorem Keep.zero (M : Mem) : Keep [] M := ⟨M, rfl⟩
section
variable {M M1 : Mem} {B : Nat} {p0 p1 p2 : Int} {p3 : ByteArray} {na : Option Addr} {nc z dc : Nat} {cs : List Value} {ys : List Nat} {nds : List Nd} {ds : List Int}

structure NodeAt (M1 : Mem) (na : Option Addr) (nc : Nat) (cs : List Value) (ys : List Nat) (nds : List Nd) (k : Nat) (nd : Nd) (b y kc : Nat) : Prop where
  hb : na = some ⟨b, 0, none⟩
  bM : M1[b]? = some (.cells cs 5 .live)
  ncap : nc = capU ∨ nc = nds.length
  hy : ys[k]? = some y
  cell : (cs.drop (k * 5)).take 5 = nd.v (some ⟨y, 0, none⟩) kc
  yM : M1[y]? = some (.cells (ints nd.kids) 1 .live)
  kcap : kc = capU ∨ kc = nd.kids.length
  idx : idxA Try.prog 30 (.slice na nds.length nc) (.int .i64 (Int.ofNat k)) = some (.pointer (some ⟨b, k * 5, none⟩))
  rd : rdVar Try.prog M1 22 b (k * 5 + 3) = some (.slice (some ⟨y, 0, none⟩) nd.kids.length kc)
  rdA : rdVar Try.prog M1 24 b (k * 5) = some (.agg ⟨nd.v (some ⟨y, 0, none⟩) kc⟩)
  ne : b ≠ y
theorem TSt.open (h : TSt M M1 B p0 p1 p2 p3 na nc z dc cs ys nds ds) {k : Nat} (hk : k < nds.length) : ∃ b y kc, NodeAt M1 na nc cs ys nds k nds[k] b y kc := by
  obtain ⟨hO1, hO2, hO3⟩ := h.w.nodes
  rcases hO3 with ⟨_, e, _⟩ | ⟨b, rfl, hb1, hb2, hb3⟩
  · omega
  · obtain ⟨y, kc, g1, g2, g3, g4⟩ := h.w.kids.get k hk
    have hA : At M1 b cs := at_of hb2
    have hcell : ∀ j v, (nds[k].v (some ⟨y, 0, none⟩) kc)[j]? = some v → cs[k * 5 + j]? = some v := by
      intro j v hj
      rw [← g2, List.getElem?_take] at hj
      split at hj
      · rw [List.getElem?_drop] at hj; exact hj
      · simp at hj
    refine ⟨b, y, kc, rfl, hb2, hb3, g1, g2, g3, g4, ?_, hA.rd k22 (hcell 3 _ rfl), ?_, ?_⟩
    · have := idx_of el30 s24 (x := b) (o := 0) (n := nds.length) (c := nc) (kk := .i64) (i := Int.ofNat k) rfl hk
      rwa [Nat.zero_add] at this
    · rw [hA.rdAt k24 s24 (by omega), g2]
    · rintro rfl
      have := (List.nodup_append.1 (List.nodup_cons.1 h.w.nd).2).2.2 b (by simp [blk]) b (List.mem_of_getElem? g1)
      exact this rfl
theorem TSt.tAt (h : TSt M M1 B p0 p1 p2 p3 na nc z dc cs ys nds ds) {x1 : Nat} (hx1 : x1 = M.length + 1) : At M1 x1 [.slice na nds.length nc, .slice (some ⟨z, 0, none⟩) ds.length dc] := by
  rw [hx1]; exact at_of h.t
theorem TSt.zlt (h : TSt M M1 B p0 p1 p2 p3 na nc z dc cs ys nds ds) : z < M1.length := (List.getElem?_eq_some_iff.1 h.w.defs).1

/-- Kind, name, what is bound, place. -/
theorem TSt.plain (h : TSt M M1 B p0 p1 p2 p3 na nc z dc cs ys nds ds) {k : Nat} (hk : k < nds.length) {b y kc : Nat} (hN : NodeAt M1 na nc cs ys nds k nds[k] b y kc) (G : Mem) {j : Nat} {v : Value} {nd' : Nd} (hj : j < 5) (hv1 : Value.oneCell' v = true)
    (hv : ∀ ka kc, splice (nds[k].v ka kc) j [v] = nd'.v ka kc) (hkids : nd'.kids = nds[k].kids) (hs : nd'.name.size ≤ 1000 ∧ nd'.arg.size ≤ 1000) {x1 x2 : Nat} (hx1 : x1 = M.length + 1) (hx2 : x2 = M.length + 2) :
    ∃ M3, wrCells (M1 ++ G) b (k * 5 + j) [v] = some M3 ∧ ∃ a53 n54 n55 a56 n57 n58, rdVar Try.prog M3 32 x1 0 = some (.agg ⟨[.slice a53 n54 n55, .slice a56 n57 n58]⟩) ∧ ∃ M59, wrCells M3 x2 0 [.slice a53 n54 n55, .slice a56 n57 n58] = some M59 ∧
      ∃ a60 n61 n62 a63 n64 n65, rdVar Try.prog M59 32 x2 0 = some (.agg ⟨[.slice a60 n61 n62, .slice a63 n64 n65]⟩) ∧ TurnedK M (B + 1) (.agg ⟨[.slice a60 n61 n62, .slice a63 n64 n65]⟩) M59 := by
  have hsz := h.sz.2.2 _ (List.getElem_mem hk)
  refine h.node hk (Mod.app M1 G []) (by simp) (by simp) (by simp) hN.hb (by simp) hj hv1 (fun y' kc' hy' hc' => ⟨some ⟨y', 0, none⟩, kc', hv _ _, ?_, fun w hw => ?_⟩) ⟨hs.1, hs.2, by rw [hkids]; omega⟩ hx1 hx2
  · rw [hN.hy] at hy'
    injection hy' with hy'; subst hy'
    rw [hkids]
    exact .at_ (u := 1) (m := .live) ((Keep.app M1 G).get hN.yM) (by decide) (by simp [ints])
  · simp [blk] at hw; subst hw
    rw [hN.hy] at hy'
    injection hy' with hy'; subst hy'
    exact ⟨h.lo _ (by simp [List.mem_of_getElem? hN.hy]), fun e => hN.ne e.symm⟩

theorem intOne (i : Int) : ([Value.int .i64 i]).all Value.oneCell' = true := rfl
theorem splice_ints (l : List Int) (q : Nat) (w : Int) (hq : q < l.length) : splice (ints l) q [.int .i64 w] = ints (l.set q w) := by
  unfold splice ints
  rw [List.set_eq_take_append_cons_drop, if_pos hq]
  simp [List.map_take, List.map_drop]
/-- A kid is another one. -/
theorem TSt.kid (h : TSt M M1 B p0 p1 p2 p3 na nc z dc cs ys nds ds) {k : Nat} (hk : k < nds.length) {b y kc : Nat} (hN : NodeAt M1 na nc cs ys nds k nds[k] b y kc) {q : Nat} (hq : q < nds[k].kids.length) (w : Int) {x1 x2 : Nat} (hx1 : x1 = M.length + 1) (hx2 : x2 = M.length + 2) :
    ∃ n o, idxA Try.prog 22 (.slice (some ⟨y, 0, none⟩) nds[k].kids.length kc) (.int .i64 (Int.ofNat q)) = some (.pointer (some ⟨n, o, none⟩)) ∧ ∃ M3, wrCells M1 n o [.int .i64 w] = some M3 ∧ True ∧ ∃ a53 n54 n55 a56 n57 n58, rdVar Try.prog M3 32 x1 0 = some (.agg ⟨[.slice a53 n54 n55, .slice a56 n57 n58]⟩) ∧ ∃ M59, wrCells M3 x2 0 [.slice a53 n54 n55, .slice a56 n57 n58] = some M59 ∧
      ∃ a60 n61 n62 a63 n64 n65, rdVar Try.prog M59 32 x2 0 = some (.agg ⟨[.slice a60 n61 n62, .slice a63 n64 n65]⟩) ∧ TurnedK M (B + 1) (.agg ⟨[.slice a60 n61 n62, .slice a63 n64 n65]⟩) M59 := by
  have hi := idx_of (ty := 22) (e := 3) (size := 1) (by kernel_rfl) (by kernel_rfl) (x := y) (o := 0) (n := nds[k].kids.length) (c := kc) (kk := .i64) (i := Int.ofNat q) rfl hq
  rw [Nat.zero_add, Nat.mul_one] at hi
  have hwr := wrCells_at hN.yM (o := q) (new := [.int .i64 w]) (by simp [ints]; omega) rfl
  rw [splice_ints _ _ _ hq] at hwr
  have hyl := (List.getElem?_eq_some_iff.1 hN.yM).1
  have hm : Mod M1 (M1.set y (.cells (ints (nds[k].kids.set q w)) 1 .live)) [y] := Mod.set _ _ _ (by simp)
  have hyy := List.mem_of_getElem? hN.hy
  have hylo := h.lo y (by simp [hyy])
  have hndn := List.nodup_cons.1 h.w.nd
  have hnd2 := List.nodup_append.1 hndn.2
  have hsz := h.sz.2.2 _ (List.getElem_mem hk)
  have hset : (M1.set y (.cells (ints (nds[k].kids.set q w)) 1 .live))[y]? = some (.cells (ints (nds[k].kids.set q w)) 1 .live) := by
    rw [List.getElem?_set]; simp [hyl]
  refine ⟨_, _, hi, _, hwr, trivial, turned_fin (nds := nds.set k { nds[k] with kids := nds[k].kids.set q w }) (ds := ds) (cs := cs) (na := na) (nc := nc) (da := some ⟨z, 0, none⟩) (dc := dc) (h.keep.mod hm (fun v hv => by simp at hv; omega)) hx1 hx2 ?_ ?_ ?_ (fun v hv => h.lo v (by simp [hv])) ?_ ?_ (fun v hv => by simp [blk] at hv; subst hv; exact h.lo v (by simp)) (h.sz.set (by omega) ⟨hsz.1, hsz.2.1, by simp; omega⟩)⟩
  · rw [hx1, hm.2 _ (List.getElem?_eq_some_iff.1 h.t).1 (by simp; omega), h.t]; simp
  · rw [hx2, hm.2 _ (List.getElem?_eq_some_iff.1 h.r).1 (by simp; omega)]; exact h.r
  · have := h.w.nodes.slice.mod hm (fun v hv hh => by simp at hh; subst hh; exact hnd2.2.2 v hv v hyy rfl)
    simpa using this
  · have hc0 : cs[k * 5 + 0]? = some (.int .i64 nds[k].kind) := by
      have := congrArg (fun l => l[0]?) hN.cell
      simp only [List.getElem?_take, List.getElem?_drop] at this
      simpa [Nd.v, nodeV] using this
    have := h.w.kids.upd (lo := M.length + 3) hm (j := 0) (v := .int .i64 nds[k].kind) (nd' := { nds[k] with kids := nds[k].kids.set q w }) (by decide) hk hnd2.2.1 (fun v hv => h.lo v (by simp [hv])) (fun v hv => .inl (by simp at hv; subst hv; exact hN.hy)) (fun y' kc' hy' hc' => by
      rw [hN.hy] at hy'
      injection hy' with hy'; subst hy'
      exact ⟨some ⟨y, 0, none⟩, kc', by simp [Nd.v, nodeV, splice], .at_ (u := 1) (m := .live) hset (by decide) (by simp [ints]), fun v hv => by simp [blk] at hv; omega⟩)
    rwa [splice_same hc0] at this
  · exact h.defsS hm (fun hh => by simp at hh; subst hh; exact hndn.1 (by simp [hyy]))

theorem slice_pre {M : Mem} {ty e : TypeId} {sz y n c h u : Nat} {vs : List Value} (he : elemT Try.prog ty = some e) (hs : sizeT Try.prog e = some sz) (hM : M[y]? = some (.cells vs u .live)) (hu : u = sz) (hc : c = capU ∨ c = n) (hn : n < 1000000000) (hh : h ≤ n) :
    ∃ c', sliceA Try.prog M ty (.slice (some ⟨y, 0, none⟩) n c) none (some (.int .i64 (Int.ofNat h))) none = some (.slice (some ⟨y, 0, none⟩) h c') := by
  have e3 : bnd none 0 = some 0 := rfl
  have hcap : capU = 9223372036854775808 := rfl
  simp only [sliceA, he, hs, Option.bind_some, e3, bnd_nat]
  rcases hc with rfl | rfl
  · rw [if_pos (rfl : capU = capU), hM]
    dsimp only
    rw [if_pos ⟨Nat.zero_le _, hh, hu⟩]
    exact ⟨capU, by simp⟩
  · rw [if_neg (by omega)]
    have e4 : bnd none c = some c := rfl
    rw [e4, Option.bind_some, if_pos ⟨Nat.zero_le _, hh, Nat.le_refl _, by omega⟩]
    exact ⟨c - 0, by simp⟩
theorem slice_cut {M : Mem} {y n c q : Nat} {l : List Int} (hM : M[y]? = some (.cells (ints l) 1 .live)) (hl : l.length = n) (hc : c = capU ∨ c = n) (hn : n < 1000000000) (hq : q < n) :
    sliceA Try.prog M 22 (.slice (some ⟨y, 0, none⟩) n c) none (some (.int .i64 (Int.ofNat q))) (some (.int .i64 (Int.ofNat q))) = some (.slice (some ⟨y, 0, none⟩) q q) ∧
    ∃ o c', sliceA Try.prog M 22 (.slice (some ⟨y, 0, none⟩) n c) (some (.int .i64 (Int.ofNat (q + 1)))) none none = some (.slice (some ⟨y, o, none⟩) (n - (q + 1)) c') ∧ (n - (q + 1) = 0 ∨ o = q + 1) ∧ o ≤ n := by
  have e1 : elemT Try.prog 22 = some 3 := by kernel_rfl
  have e2 : sizeT Try.prog 3 = some 1 := by kernel_rfl
  have e3 : bnd none 0 = some 0 := rfl
  have e4 : bnd none n = some n := rfl
  have hcap : capU = 9223372036854775808 := rfl
  constructor
  · simp only [sliceA, e1, e2, Option.bind_some, e3, bnd_nat]
    rcases hc with rfl | rfl
    · rw [if_pos (rfl : capU = capU), if_pos ⟨Nat.zero_le _, Nat.le_refl _, by omega, by omega⟩]
      simp
    · rw [if_neg (by omega), if_pos ⟨Nat.zero_le _, Nat.le_refl _, by omega, by omega⟩]
      simp
  · simp only [sliceA, e1, e2, Option.bind_some, e4, bnd_nat]
    rcases hc with rfl | rfl
    · rw [if_pos (rfl : capU = capU), hM]
      dsimp only
      rw [if_pos ⟨by omega, Nat.le_refl _, rfl⟩]
      exact ⟨_, _, rfl, .inr (by omega), by omega⟩
    · rw [if_neg (by omega), e4, Option.bind_some, if_pos ⟨by omega, Nat.le_refl _, Nat.le_refl _, by omega⟩]
      by_cases h : c = q + 1
      · rw [if_pos h]; exact ⟨_, _, rfl, .inl (by omega), by omega⟩
      · rw [if_neg h]; exact ⟨_, _, rfl, .inr (by omega), by omega⟩
/-- A kid less. -/
theorem TSt.kidLess (h : TSt M M1 B p0 p1 p2 p3 na nc z dc cs ys nds ds) (hB : B ≤ 300000) {k : Nat} (hk : k < nds.length) {b y kc : Nat} (hN : NodeAt M1 na nc cs ys nds k nds[k] b y kc) {q : Nat} (hq : q < nds[k].kids.length) {x1 x2 : Nat} (hx1 : x1 = M.length + 1) (hx2 : x2 = M.length + 2) :
    ∃ a154 n155 n156, sliceA Try.prog M1 22 (.slice (some ⟨y, 0, none⟩) nds[k].kids.length kc) none (some (.int .i64 (Int.ofNat q))) (some (.int .i64 (Int.ofNat q))) = some (.slice a154 n155 n156) ∧ ∃ a157 n158 n159, rdVar Try.prog M1 22 b (k * 5 + 3) = some (.slice a157 n158 n159) ∧
      ∃ a160 n161 n162, sliceA Try.prog M1 22 (.slice a157 n158 n159) (some (.int .i64 (wrapF .i64 (Int.add (Int.ofNat q) (Int.ofNat 1))))) none none = some (.slice a160 n161 n162) ∧ ∃ a163 n164 n165 M166, appendA Try.prog M1 22 22 (.slice a154 n155 n156) (.slice a160 n161 n162) = some (.slice a163 n164 n165, M166) ∧
      ∃ M3, wrCells M166 b (k * 5 + 3) [.slice a163 n164 n165] = some M3 ∧ True ∧ ∃ a53 n54 n55 a56 n57 n58, rdVar Try.prog M3 32 x1 0 = some (.agg ⟨[.slice a53 n54 n55, .slice a56 n57 n58]⟩) ∧ ∃ M59, wrCells M3 x2 0 [.slice a53 n54 n55, .slice a56 n57 n58] = some M59 ∧
      ∃ a60 n61 n62 a63 n64 n65, rdVar Try.prog M59 32 x2 0 = some (.agg ⟨[.slice a60 n61 n62, .slice a63 n64 n65]⟩) ∧ TurnedK M (B + 1) (.agg ⟨[.slice a60 n61 n62, .slice a63 n64 n65]⟩) M59 := by
  have hsz := h.sz.2.2 _ (List.getElem_mem hk)
  obtain ⟨s1, o, c', s2, s3, s4⟩ := slice_cut hN.yM rfl hN.kcap (by omega) hq
  have hadd : wrapF .i64 (Int.add (Int.ofNat q) (Int.ofNat 1)) = Int.ofNat (q + 1) := add64 (by omega)
  rw [← hadd] at s2
  have hyy := List.mem_of_getElem? hN.hy
  have hylo := h.lo y (by simp [hyy])
  have hM1lo : M.length + 3 ≤ M1.length := by have := (List.getElem?_eq_some_iff.1 h.r).1; omega
  have hsrc : srcA Try.prog M1 1 (.slice (some ⟨y, o, none⟩) (nds[k].kids.length - (q + 1)) c') = some (nds[k].kids.length - (q + 1), ((ints nds[k].kids).drop o).take (nds[k].kids.length - (q + 1))) := by
    simp only [srcA]
    rw [rdCells_at hN.yM (by decide) (by simp [ints]; rcases s3 with h | h <;> omega)]
    simp
  obtain ⟨a163, n164, n165, M166, g1, G, rfl, ks, g2, g3, g4, g5⟩ : ∃ a163 n164 n165 M166, appendA Try.prog M1 22 22 (.slice (some ⟨y, 0, none⟩) q q) (.slice (some ⟨y, o, none⟩) (nds[k].kids.length - (q + 1)) c') = some (.slice a163 n164 n165, M166) ∧
      ∃ G, M166 = M1 ++ G ∧ ∃ ks : List Int, n164 = ks.length ∧ SliceR (M1 ++ G) 1 a163 n164 n165 (ints ks) ∧ ks.length ≤ nds[k].kids.length ∧ ∀ w ∈ blk a163, M.length + 3 ≤ w ∧ w ≠ b := by
    obtain ⟨ze, hze, hz2⟩ := E22.ze
    have hxk : kindT Try.prog 22 = some .slice := by kernel_rfl
    have hcnd : ¬ ((TK.slice ≠ .slice ∧ TK.slice ≠ .str) ∨ (1 : Nat) = 0 ∨ ze.cells.size ≠ 1) := by
      rintro (⟨h1, _⟩ | h | h)
      · exact h1 rfl
      · omega
      · exact h hz2
    have hcap : capU = 9223372036854775808 := rfl
    have key : appendA Try.prog M1 22 22 (.slice (some ⟨y, 0, none⟩) q q) (.slice (some ⟨y, o, none⟩) (nds[k].kids.length - (q + 1)) c') =
      (if nds[k].kids.length - (q + 1) = 0 then (if q ≠ capU → q ≤ q then some (.slice (some ⟨y, 0, none⟩) q q, M1) else none)
      else if q ≠ capU ∧ q + (nds[k].kids.length - (q + 1)) ≤ q then (wrCells M1 y (0 + q * 1) (((ints nds[k].kids).drop o).take (nds[k].kids.length - (q + 1)))).map fun M' => (.slice (some ⟨y, 0, none⟩) (q + (nds[k].kids.length - (q + 1))) q, M')
      else if room47 (q + (nds[k].kids.length - (q + 1))) 8 = false ∨ q + (nds[k].kids.length - (q + 1)) > 4611686018427387904 then none
      else if q ≠ capU then (rdCells M1 y 0 (q * 1)).map fun old => (.slice (some ⟨M1.length, 0, none⟩) (q + (nds[k].kids.length - (q + 1))) capU, M1 ++ [.cells (old ++ ((ints nds[k].kids).drop o).take (nds[k].kids.length - (q + 1))) 1 .live])
      else match M1[y]? with
          | some (.cells vs u' .live) => if u' = 1 ∧ (((ints nds[k].kids).drop o).take (nds[k].kids.length - (q + 1))).all Value.oneCell' = true then (rdCells M1 y 0 (q * 1)).map fun old => (.slice (some ⟨M1.length, 0, none⟩) (q + (nds[k].kids.length - (q + 1))) capU, M1.set y (.cells vs u' .dead) ++ [.cells (old ++ ((ints nds[k].kids).drop o).take (nds[k].kids.length - (q + 1))) 1 .live]) else none
          | _ => none) := by
      unfold appendA
      simp only [E22.el, E22.sz, E22.by_, hze, hxk, hsrc, Option.bind_some]
      rw [if_neg hcnd]
      rfl
    rw [key]
    by_cases hm : nds[k].kids.length - (q + 1) = 0
    · rw [if_pos hm, if_pos (fun _ => Nat.le_refl _)]
      refine ⟨_, _, _, _, rfl, [], by simp, nds[k].kids.take q, by simp; omega, ?_, by simp; omega, fun w hw => ?_⟩
      · refine ⟨by simp [ints]; omega, .inr ⟨y, 0, ints nds[k].kids, 1, .live, rfl, by simpa using hN.yM, by decide, by simp [ints, List.map_take], by simp [ints]; omega⟩⟩
      · simp [blk] at hw; subst hw; exact ⟨hylo, fun e => hN.ne e.symm⟩
    · have ho : o = q + 1 := by rcases s3 with h | h; exact absurd h hm; exact h
      subst ho
      rw [if_neg hm, if_neg (by omega), if_neg (by simp only [room47, decide_eq_false_iff_not]; omega), if_pos (by omega), rdCells_at hN.yM (by decide) (by simp [ints]; omega)]
      have hlist : ((ints nds[k].kids).drop 0).take (q * 1) ++ ((ints nds[k].kids).drop (q + 1)).take (nds[k].kids.length - (q + 1)) = ints (nds[k].kids.take q ++ nds[k].kids.drop (q + 1)) := by
        simp only [ints, List.drop_zero, Nat.mul_one, List.map_append, List.map_take, List.map_drop]
        congr 1
        exact List.take_of_length_le (by simp)
      simp only [Option.map_some]
      rw [hlist]
      refine ⟨_, _, _, _, rfl, [.cells (ints (nds[k].kids.take q ++ nds[k].kids.drop (q + 1))) 1 .live], rfl, nds[k].kids.take q ++ nds[k].kids.drop (q + 1), by simp; omega, .at_ (get_last _ _) (by decide) (by simp [ints]; omega), by simp; omega, fun w hw => ?_⟩
      simp [blk] at hw; subst hw
      exact ⟨hM1lo, fun e => by have := (List.getElem?_eq_some_iff.1 hN.bM).1; omega⟩
  subst g2
  obtain ⟨M3, w1, w2⟩ := h.node hk (Mod.app M1 G []) (by simp) (by simp) (by simp) hN.hb (by simp) (j := 3) (by decide) (v := .slice a163 ks.length n165) rfl (nd' := { nds[k] with kids := ks }) (fun y' kc' hy' hc' => ⟨a163, n165, rfl, g3, g5⟩) ⟨hsz.1, hsz.2.1, by show ks.length ≤ B + 1; omega⟩ hx1 hx2
  exact ⟨_, _, _, s1, _, _, _, hN.rd, _, _, _, s2, _, _, _, _, g1, M3, w1, trivial, w2⟩

/-- A kid more. -/
theorem TSt.kidMore (h : TSt M M1 B p0 p1 p2 p3 na nc z dc cs ys nds ds) (hB : B ≤ 300000) {k : Nat} (hk : k < nds.length) {b y kc : Nat} (hN : NodeAt M1 na nc cs ys nds k nds[k] b y kc) (w : Int) {x1 x2 : Nat} (hx1 : x1 = M.length + 1) (hx2 : x2 = M.length + 2) :
    ∃ a199 n200 n201 M202, appendA Try.prog (M1 ++ [AObj.cells [.int .i64 w] 1 .live]) 22 22 (.slice (some ⟨y, 0, none⟩) nds[k].kids.length kc) (.slice (some ⟨M1.length, 0, none⟩) 1 1) = some (.slice a199 n200 n201, M202) ∧
      ∃ M3, wrCells M202 b (k * 5 + 3) [.slice a199 n200 n201] = some M3 ∧ True ∧ ∃ a53 n54 n55 a56 n57 n58, rdVar Try.prog M3 32 x1 0 = some (.agg ⟨[.slice a53 n54 n55, .slice a56 n57 n58]⟩) ∧ ∃ M59, wrCells M3 x2 0 [.slice a53 n54 n55, .slice a56 n57 n58] = some M59 ∧
      ∃ a60 n61 n62 a63 n64 n65, rdVar Try.prog M59 32 x2 0 = some (.agg ⟨[.slice a60 n61 n62, .slice a63 n64 n65]⟩) ∧ TurnedK M (B + 1) (.agg ⟨[.slice a60 n61 n62, .slice a63 n64 n65]⟩) M59 := by
  have hsz := h.sz.2.2 _ (List.getElem_mem hk)
  have hyy := List.mem_of_getElem? hN.hy
  have hylo := h.lo y (by simp [hyy])
  have hM1lo : M.length + 3 ≤ M1.length := by have := (List.getElem?_eq_some_iff.1 h.r).1; omega
  have hndn := List.nodup_cons.1 h.w.nd
  have hO : Own [] (M1 ++ [AObj.cells [.int .i64 w] 1 .live]) 1 (some ⟨y, 0, none⟩) nds[k].kids.length kc (ints nds[k].kids) := ⟨Keep.zero _, by simp [ints], .inr ⟨y, rfl, by simp, (Keep.app _ _).get hN.yM, hN.kcap⟩⟩
  obtain ⟨c', M2, g1, g2, g3, g4, g5⟩ := append_own2 E22 hO (src_at (n := 1) (c := 1) (get_last M1 _) rfl) rfl rfl (by omega) (by omega) (by decide)
  have hlen : (M1 ++ [AObj.cells [.int .i64 w] 1 .live]).length = M1.length + 1 := by simp
  have hm : Mod M1 M2 [y] := (Mod.app M1 [AObj.cells [.int .i64 w] 1 .live] [y]).trans g3 (fun v hv => .inl hv)
  rw [hlen] at g1 g2
  obtain ⟨M3, w1, w2⟩ := h.node hk hm (fun v hv => .inl (by simp at hv; subst hv; exact hN.hy)) (fun v hv => by simp at hv; omega) (fun hh => by simp at hh; subst hh; exact hndn.1 (by simp [hyy])) hN.hb (fun hh => by simp at hh; exact hN.ne hh) (j := 3) (by decide) (v := .slice (some ⟨M1.length + 1, 0, none⟩) (nds[k].kids.length + 1) c') rfl (nd' := { nds[k] with kids := nds[k].kids ++ [w] })
    (fun y' kc' hy' hc' => ⟨some ⟨M1.length + 1, 0, none⟩, c', by simp [Nd.v, nodeV, splice], by
      have := g2.slice
      have e : ints (nds[k].kids ++ [w]) = ints nds[k].kids ++ [.int .i64 w] := by simp [ints]
      simp only [List.length_append, List.length_cons, List.length_nil]
      rw [e]; exact this, fun v hv => by
        simp [blk] at hv; subst hv
        have := (List.getElem?_eq_some_iff.1 hN.bM).1
        exact ⟨by omega, by omega⟩⟩) ⟨hsz.1, hsz.2.1, by simp; omega⟩ hx1 hx2
  exact ⟨_, _, _, _, g1, M3, w1, trivial, w2⟩

/-- The tree's own rows. -/
theorem TSt.rows (h : TSt M M1 B p0 p1 p2 p3 na nc z dc cs ys nds ds) {M2 : Mem} {V : List Nat} (hm : Mod M1 M2 V) (hV : ∀ y ∈ V, M.length + 3 ≤ y) {x1 x2 : Nat} (hx1 : x1 = M.length + 1) (hx2 : x2 = M.length + 2) {f : Nat} {v : Value} {na' da' : Option Addr} {nc' dc' : Nat} {cs' : List Value} {nds' : List Nd} {ds' : List Int}
    (hv : (f = 0 ∧ v = .slice na' nds'.length nc' ∧ da' = some ⟨z, 0, none⟩ ∧ ds' = ds ∧ dc' = dc) ∨ (f = 1 ∧ v = .slice da' ds'.length dc' ∧ na' = na ∧ nds' = nds ∧ nc' = nc))
    (h1 : SliceR M2 5 na' nds'.length nc' cs') (h1' : ∀ y ∈ blk na', M.length + 3 ≤ y) (h2 : NdRL (M.length + 3) M2 nds' cs') (h3 : SliceR M2 1 da' ds'.length dc' (ints ds')) (h3' : ∀ y ∈ blk da', M.length + 3 ≤ y) (hs : Sz (B + 1) nds' ds') :
    ∃ M3, wrCells M2 x1 f [v] = some M3 ∧ ∃ a53 n54 n55 a56 n57 n58, rdVar Try.prog M3 32 x1 0 = some (.agg ⟨[.slice a53 n54 n55, .slice a56 n57 n58]⟩) ∧ ∃ M59, wrCells M3 x2 0 [.slice a53 n54 n55, .slice a56 n57 n58] = some M59 ∧
      ∃ a60 n61 n62 a63 n64 n65, rdVar Try.prog M59 32 x2 0 = some (.agg ⟨[.slice a60 n61 n62, .slice a63 n64 n65]⟩) ∧ TurnedK M (B + 1) (.agg ⟨[.slice a60 n61 n62, .slice a63 n64 n65]⟩) M59 := by
  have hlow : ∀ x, x ≤ M.length + 2 → x ∉ V := fun x hx hh => by have := hV x hh; omega
  have ht2 : M2[x1]? = some (.cells [.slice na nds.length nc, .slice (some ⟨z, 0, none⟩) ds.length dc] 2 .live) := by
    rw [hx1, hm.2 _ (List.getElem?_eq_some_iff.1 h.t).1 (hlow _ (by omega))]; exact h.t
  have hr2 : M2[x2]? = some (.cells [.slice none 0 0, .slice none 0 0] 2 .live) := by
    rw [hx2, hm.2 _ (List.getElem?_eq_some_iff.1 h.r).1 (hlow _ (by omega))]; exact h.r
  have htl := (List.getElem?_eq_some_iff.1 ht2).1
  have hwr : wrCells M2 x1 f [v] = some (M2.set x1 (.cells [.slice na' nds'.length nc', .slice da' ds'.length dc'] 2 .live)) := by
    rcases hv with ⟨rfl, rfl, rfl, rfl, rfl⟩ | ⟨rfl, rfl, rfl, rfl, rfl⟩
    · rw [wrCells_at ht2 (by show 0 + 1 ≤ 2; decide) rfl]; rfl
    · rw [wrCells_at ht2 (by show 1 + 1 ≤ 2; decide) rfl]; rfl
  have hm2 : Mod M2 (M2.set x1 (.cells [.slice na' nds'.length nc', .slice da' ds'.length dc'] 2 .live)) [x1] := Mod.set _ _ _ (by simp)
  refine ⟨_, hwr, turned_fin (nds := nds') (ds := ds') (cs := cs') (na := na') (nc := nc') (da := da') (dc := dc') ((h.keep.mod hm (fun y hy => by have := hV y hy; omega)).mod hm2 (fun y hy => by simp at hy; omega)) hx1 hx2 ?_ ?_ (h1.mod hm2 (fun y hy hh => by have := h1' y hy; simp at hh; omega)) h1' (h2.mod hm2 (fun y hy => by simp at hy; omega)) (h3.mod hm2 (fun y hy hh => by have := h3' y hy; simp at hh; omega)) h3' hs⟩
  · rw [List.getElem?_set]; simp [htl]
  · rw [List.getElem?_set_ne (by omega)]; exact hr2
theorem TSt.nodesL (h : TSt M M1 B p0 p1 p2 p3 na nc z dc cs ys nds ds) {M2 : Mem} {V : List Nat} (hm : Mod M1 M2 V) (hV : ∀ y ∈ V, y ∉ ys) : NdRL (M.length + 3) M2 nds cs := h.w.kids.toL hm (fun y hy => ⟨h.lo y (by simp [hy]), fun hh => hV y hh hy⟩)
theorem TSt.nodesS (h : TSt M M1 B p0 p1 p2 p3 na nc z dc cs ys nds ds) {M2 : Mem} {V : List Nat} (hm : Mod M1 M2 V) (hV : ∀ y ∈ V, y ∉ blk na) : SliceR M2 5 na nds.length nc cs := h.w.nodes.slice.mod hm (fun y hy hh => hV y hh hy)
theorem TSt.zy (h : TSt M M1 B p0 p1 p2 p3 na nc z dc cs ys nds ds) : z ∉ ys ∧ z ∉ blk na := by
  have := (List.nodup_cons.1 h.w.nd).1
  simp only [List.mem_append, not_or] at this
  exact ⟨this.2, this.1⟩

/-- A def more. -/
theorem TSt.defMore (h : TSt M M1 B p0 p1 p2 p3 na nc z dc cs ys nds ds) (hB : B ≤ 300000) (w : Int) {x1 x2 : Nat} (hx1 : x1 = M.length + 1) (hx2 : x2 = M.length + 2) :
    ∃ a n c, rdVar Try.prog M1 22 x1 1 = some (.slice a n c) ∧ ∃ a220 n221 n222 M223, appendA Try.prog (M1 ++ [AObj.cells [.int .i64 w] 1 .live]) 22 22 (.slice a n c) (.slice (some ⟨M1.length, 0, none⟩) 1 1) = some (.slice a220 n221 n222, M223) ∧
      ∃ M3, wrCells M223 x1 1 [.slice a220 n221 n222] = some M3 ∧ ∃ a53 n54 n55 a56 n57 n58, rdVar Try.prog M3 32 x1 0 = some (.agg ⟨[.slice a53 n54 n55, .slice a56 n57 n58]⟩) ∧ ∃ M59, wrCells M3 x2 0 [.slice a53 n54 n55, .slice a56 n57 n58] = some M59 ∧
      ∃ a60 n61 n62 a63 n64 n65, rdVar Try.prog M59 32 x2 0 = some (.agg ⟨[.slice a60 n61 n62, .slice a63 n64 n65]⟩) ∧ TurnedK M (B + 1) (.agg ⟨[.slice a60 n61 n62, .slice a63 n64 n65]⟩) M59 := by
  have hM1lo : M.length + 3 ≤ M1.length := by have := (List.getElem?_eq_some_iff.1 h.r).1; omega
  have hsz := h.sz
  have hO : Own [] (M1 ++ [AObj.cells [.int .i64 w] 1 .live]) 1 (some ⟨z, 0, none⟩) ds.length dc (ints ds) := ⟨Keep.zero _, by simp [ints], .inr ⟨z, rfl, by simp, (Keep.app _ _).get h.w.defs, h.w.dcap⟩⟩
  obtain ⟨c', M2, g1, g2, g3, g4, g5⟩ := append_own2 E22 hO (src_at (n := 1) (c := 1) (get_last M1 _) rfl) rfl rfl (by have := hsz.2.1; omega) (by have := hsz.2.1; omega) (by decide)
  have hlen : (M1 ++ [AObj.cells [.int .i64 w] 1 .live]).length = M1.length + 1 := by simp
  have hm : Mod M1 M2 [z] := (Mod.app M1 [AObj.cells [.int .i64 w] 1 .live] [z]).trans g3 (fun v hv => .inl hv)
  rw [hlen] at g1 g2
  have hz := h.zy
  refine ⟨_, _, _, (h.tAt hx1).rd k22 rfl, _, _, _, _, g1, h.rows hm (fun v hv => by simp at hv; subst hv; exact h.lo v (by simp)) hx1 hx2 (f := 1) (nds' := nds) (ds' := ds ++ [w]) (cs' := cs) (na' := na) (nc' := nc) (da' := some ⟨M1.length + 1, 0, none⟩) (dc' := c') (.inr ⟨rfl, by simp, rfl, rfl, rfl⟩) (h.nodesS hm (fun v hv => by simp at hv; subst hv; exact hz.2)) (fun v hv => h.lo v (by simp [hv])) (h.nodesL hm (fun v hv => by simp at hv; subst hv; exact hz.1)) ?_ (fun v hv => by simp [blk] at hv; omega) ⟨by have := hsz.1; omega, by have := hsz.2.1; simp; omega, fun n hn => ?_⟩⟩
  · have := g2.slice
    have e : ints (ds ++ [w]) = ints ds ++ [.int .i64 w] := by simp [ints]
    simp only [List.length_append, List.length_cons, List.length_nil]
    rw [e]; exact this
  · have := hsz.2.2 n hn; exact ⟨this.1, this.2.1, by omega⟩
/-- A def less. -/
theorem TSt.defLess (h : TSt M M1 B p0 p1 p2 p3 na nc z dc cs ys nds ds) (hB : B ≤ 300000) {x1 x2 : Nat} (hx1 : x1 = M.length + 1) (hx2 : x2 = M.length + 2) :
    ∃ a n c, rdVar Try.prog M1 22 x1 1 = some (.slice a n c) ∧ ∃ a' n' c', rdVar Try.prog M1 22 x1 1 = some (.slice a' n' c') ∧
      ∃ a244 n245 n246, sliceA Try.prog M1 22 (.slice a n c) none (some (.int .i64 (if Int.ofNat 0 < wrapF .i64 (Int.sub (Int.ofNat n') (Int.ofNat 1)) then wrapF .i64 (Int.sub (Int.ofNat n') (Int.ofNat 1)) else Int.ofNat 0))) none = some (.slice a244 n245 n246) ∧
      ∃ M3, wrCells M1 x1 1 [.slice a244 n245 n246] = some M3 ∧ ∃ a53 n54 n55 a56 n57 n58, rdVar Try.prog M3 32 x1 0 = some (.agg ⟨[.slice a53 n54 n55, .slice a56 n57 n58]⟩) ∧ ∃ M59, wrCells M3 x2 0 [.slice a53 n54 n55, .slice a56 n57 n58] = some M59 ∧
      ∃ a60 n61 n62 a63 n64 n65, rdVar Try.prog M59 32 x2 0 = some (.agg ⟨[.slice a60 n61 n62, .slice a63 n64 n65]⟩) ∧ TurnedK M (B + 1) (.agg ⟨[.slice a60 n61 n62, .slice a63 n64 n65]⟩) M59 := by
  have hsz := h.sz
  have hmax : (if Int.ofNat 0 < wrapF .i64 (Int.sub (Int.ofNat ds.length) (Int.ofNat 1)) then wrapF .i64 (Int.sub (Int.ofNat ds.length) (Int.ofNat 1)) else Int.ofNat 0) = Int.ofNat (ds.length - 1) := by
    rcases Nat.eq_zero_or_pos ds.length with h0 | h0
    · rw [h0, wrap64 (by decide) (by decide)]; decide
    · rw [sub64 (by omega) (by have := hsz.2.1; omega)]
      split
      · rfl
      · rename_i hn
        have : ¬ (0 : Int) < ((ds.length - 1 : Nat) : Int) := hn
        have : ds.length - 1 = 0 := by omega
        rw [this]
  obtain ⟨c', hs⟩ := slice_pre (ty := 22) (e := 3) (by kernel_rfl) (by kernel_rfl) h.w.defs rfl h.w.dcap (by have := hsz.2.1; omega) (h := ds.length - 1) (by omega)
  rw [← hmax] at hs
  refine ⟨_, _, _, (h.tAt hx1).rd k22 rfl, _, _, _, (h.tAt hx1).rd k22 rfl, _, _, _, hs, h.rows (.refl M1 []) (by simp) hx1 hx2 (f := 1) (nds' := nds) (ds' := ds.take (ds.length - 1)) (cs' := cs) (na' := na) (nc' := nc) (da' := some ⟨z, 0, none⟩) (dc' := c') (.inr ⟨rfl, by simp, rfl, rfl, rfl⟩) (h.nodesS (.refl M1 []) (by simp)) (fun v hv => h.lo v (by simp [hv])) (h.nodesL (.refl M1 []) (by simp)) ?_ (fun v hv => by simp [blk] at hv; subst hv; exact h.lo v (by simp)) ⟨by have := hsz.1; omega, by have := hsz.2.1; simp; omega, fun n hn => ?_⟩⟩
  · exact ⟨by simp [ints], .inr ⟨z, 0, ints ds, 1, .live, rfl, h.w.defs, by decide, by simp [ints, List.map_take], by simp [ints]⟩⟩
  · have := hsz.2.2 n hn; exact ⟨this.1, this.2.1, by omega⟩
/-- A node less. -/
theorem NdRL.take {lo : Nat} {M : Mem} : ∀ {l : List Nd} {cs : List Value} (m : Nat), NdRL lo M l cs → NdRL lo M (l.take m) (cs.take (m * 5))
  | [], cs, m, h => by have h : cs = [] := h; subst h; simp [NdRL]
  | n :: l, cs, 0, ⟨ka, kc, rest, h1, h2, h3, h4⟩ => by simp [NdRL]
  | n :: l, cs, m + 1, ⟨ka, kc, rest, h1, h2, h3, h4⟩ => by
    refine ⟨ka, kc, rest.take (m * 5), ?_, h2, h3, h4.take m⟩
    subst h1
    rw [show (m + 1) * 5 = (n.v ka kc).length + m * 5 by rw [Nd.v_len]; omega, List.take_length_add_append]
theorem TSt.nodeLess (h : TSt M M1 B p0 p1 p2 p3 na nc z dc cs ys nds ds) (hB : B ≤ 300000) (hpos : 0 < nds.length) {x1 x2 : Nat} (hx1 : x1 = M.length + 1) (hx2 : x2 = M.length + 2) :
    ∃ a n c, rdVar Try.prog M1 30 x1 0 = some (.slice a n c) ∧ ∃ a' n' c', rdVar Try.prog M1 30 x1 0 = some (.slice a' n' c') ∧
      ∃ a244 n245 n246, sliceA Try.prog M1 30 (.slice a n c) none (some (.int .i64 (wrapF .i64 (Int.sub (Int.ofNat n') (Int.ofNat 1))))) none = some (.slice a244 n245 n246) ∧
      ∃ M3, wrCells M1 x1 0 [.slice a244 n245 n246] = some M3 ∧ ∃ a53 n54 n55 a56 n57 n58, rdVar Try.prog M3 32 x1 0 = some (.agg ⟨[.slice a53 n54 n55, .slice a56 n57 n58]⟩) ∧ ∃ M59, wrCells M3 x2 0 [.slice a53 n54 n55, .slice a56 n57 n58] = some M59 ∧
      ∃ a60 n61 n62 a63 n64 n65, rdVar Try.prog M59 32 x2 0 = some (.agg ⟨[.slice a60 n61 n62, .slice a63 n64 n65]⟩) ∧ TurnedK M (B + 1) (.agg ⟨[.slice a60 n61 n62, .slice a63 n64 n65]⟩) M59 := by
  have hsz := h.sz
  obtain ⟨b, y, kc, hN⟩ := h.open hpos
  have hlen := h.w.nodes.2.1
  obtain ⟨c', hs⟩ := slice_pre (ty := 30) (e := 24) el30 s24 hN.bM rfl hN.ncap (by have := hsz.1; omega) (h := nds.length - 1) (by omega)
  rw [← sub64 (by omega) (by have := hsz.1; omega)] at hs
  have hna := hN.hb
  refine ⟨_, _, _, (h.tAt hx1).rd k30 rfl, _, _, _, (h.tAt hx1).rd k30 rfl, _, _, _, by rw [hna]; exact hs, h.rows (.refl M1 []) (by simp) hx1 hx2 (f := 0) (nds' := nds.take (nds.length - 1)) (ds' := ds) (cs' := cs.take ((nds.length - 1) * 5)) (na' := some ⟨b, 0, none⟩) (nc' := c') (da' := some ⟨z, 0, none⟩) (dc' := dc) (.inl ⟨rfl, by simp, rfl, rfl, rfl⟩) ?_ (fun v hv => h.lo v (by rw [hna]; simp [hv])) ((h.nodesL (.refl M1 []) (by simp)).take _) (h.defsS (.refl M1 []) (by simp)) (fun v hv => by simp [blk] at hv; subst hv; exact h.lo v (by simp)) ⟨by have := hsz.1; simp; omega, by have := hsz.2.1; omega, fun n hn => ?_⟩⟩
  · exact ⟨by simp; omega, .inr ⟨b, 0, cs, 5, .live, rfl, hN.bM, by decide, by simp, by simp; omega⟩⟩
  · have := hsz.2.2 n (List.mem_of_mem_take hn); exact ⟨this.1, this.2.1, by omega⟩
/-- A node twice. -/
theorem NdRL.snoc {lo : Nat} {M : Mem} {n : Nd} {ka : Option Addr} {kc : Nat} (h2 : SliceR M 1 ka n.kids.length kc (ints n.kids)) (h3 : ∀ y ∈ blk ka, lo ≤ y) : ∀ {l : List Nd} {cs : List Value}, NdRL lo M l cs → NdRL lo M (l ++ [n]) (cs ++ n.v ka kc)
  | [], cs, h => by have h : cs = [] := h; subst h; exact ⟨ka, kc, [], by simp, h2, h3, rfl⟩
  | n' :: l, cs, ⟨ka', kc', rest, g1, g2, g3, g4⟩ => ⟨ka', kc', _, by rw [g1, List.append_assoc], g2, g3, g4.snoc h2 h3⟩
theorem TSt.nodeMore (h : TSt M M1 B p0 p1 p2 p3 na nc z dc cs ys nds ds) (hB : B ≤ 300000) {k : Nat} (hk : k < nds.length) {b y kc : Nat} (hN : NodeAt M1 na nc cs ys nds k nds[k] b y kc) {x1 x2 : Nat} (hx1 : x1 = M.length + 1) (hx2 : x2 = M.length + 2) :
    ∃ a284 n285 n286, rdVar Try.prog M1 30 x1 0 = some (.slice a284 n285 n286) ∧ ∃ a n c, rdVar Try.prog M1 30 x1 0 = some (.slice a n c) ∧ ∃ n290 n291, idxA Try.prog 30 (.slice a n c) (.int .i64 (Int.ofNat k)) = some (.pointer (some ⟨n290, n291, none⟩)) ∧
      ∃ i292 s293 s294 a295 n296 n297 i298, rdVar Try.prog M1 24 n290 n291 = some (.agg ⟨[.int .i64 i292, .string s293, .string s294, .slice a295 n296 n297, .int .i64 i298]⟩) ∧
      ∃ a299 n300 n301 M302, appendA Try.prog (M1 ++ [AObj.cells [.int .i64 i292, .string s293, .string s294, .slice a295 n296 n297, .int .i64 i298] 5 .live]) 30 30 (.slice a284 n285 n286) (.slice (some ⟨M1.length, 0, none⟩) 1 1) = some (.slice a299 n300 n301, M302) ∧
      ∃ M3, wrCells M302 x1 0 [.slice a299 n300 n301] = some M3 ∧ True ∧ ∃ a53 n54 n55 a56 n57 n58, rdVar Try.prog M3 32 x1 0 = some (.agg ⟨[.slice a53 n54 n55, .slice a56 n57 n58]⟩) ∧ ∃ M59, wrCells M3 x2 0 [.slice a53 n54 n55, .slice a56 n57 n58] = some M59 ∧
      ∃ a60 n61 n62 a63 n64 n65, rdVar Try.prog M59 32 x2 0 = some (.agg ⟨[.slice a60 n61 n62, .slice a63 n64 n65]⟩) ∧ TurnedK M (B + 1) (.agg ⟨[.slice a60 n61 n62, .slice a63 n64 n65]⟩) M59 := by
  have hsz := h.sz
  have hM1lo : M.length + 3 ≤ M1.length := by have := (List.getElem?_eq_some_iff.1 h.r).1; omega
  have hlen := h.w.nodes.2.1
  have hyy := List.mem_of_getElem? hN.hy
  have hO : Own [] (M1 ++ [AObj.cells (nds[k].v (some ⟨y, 0, none⟩) kc) 5 .live]) 5 na nds.length nc cs := by
    rw [hN.hb]
    exact ⟨Keep.zero _, hlen, .inr ⟨b, rfl, by simp, (Keep.app _ _).get hN.bM, hN.ncap⟩⟩
  obtain ⟨c', M2, g1, g2, g3, g4, g5⟩ := append_own2 E30 hO (src_at (n := 1) (c := 1) (get_last M1 _) rfl) rfl rfl (by have := hsz.1; omega) (by have := hsz.1; omega) (by decide)
  have hl1 : (M1 ++ [AObj.cells (nds[k].v (some ⟨y, 0, none⟩) kc) 5 .live]).length = M1.length + 1 := by simp
  have hm : Mod M1 M2 [b] := (Mod.app M1 [AObj.cells (nds[k].v (some ⟨y, 0, none⟩) kc) 5 .live] [b]).trans g3 (fun v hv => .inl (by rw [hN.hb] at hv; exact hv))
  rw [hl1] at g1 g2
  have hz := h.zy
  have hnd2 := List.nodup_append.1 (List.nodup_cons.1 h.w.nd).2
  have hbys : b ∉ ys := fun hh => hnd2.2.2 b (by rw [hN.hb]; simp [blk]) b hh rfl
  have hL := h.nodesL hm (fun v hv => by simp at hv; subst hv; exact hbys)
  have hy2 : M2[y]? = some (.cells (ints nds[k].kids) 1 .live) := by
    rw [hm.2 y (List.getElem?_eq_some_iff.1 hN.yM).1 (by simp; exact fun e => hN.ne e.symm)]; exact hN.yM
  obtain ⟨M3, w1, w2⟩ := h.rows hm (fun v hv => by simp at hv; subst hv; exact h.lo v (by rw [hN.hb]; simp [blk])) hx1 hx2 (f := 0) (nds' := nds ++ [nds[k]]) (ds' := ds) (cs' := cs ++ nds[k].v (some ⟨y, 0, none⟩) kc) (na' := some ⟨M1.length + 1, 0, none⟩) (nc' := c') (da' := some ⟨z, 0, none⟩) (dc' := dc) (v := .slice (some ⟨M1.length + 1, 0, none⟩) (nds.length + 1) c') (.inl ⟨rfl, by simp, rfl, rfl, rfl⟩)
    (by simpa using g2.slice) (fun v hv => by simp [blk] at hv; omega) (hL.snoc (.at_ (u := 1) (m := .live) hy2 (by decide) (by simp [ints])) (fun v hv => by simp [blk] at hv; subst hv; exact h.lo v (by simp [hyy])))
    (h.defsS hm (fun hh => by simp at hh; subst hh; exact hz.2 (by rw [hN.hb]; simp [blk]))) (fun v hv => by simp [blk] at hv; subst hv; exact h.lo v (by simp)) ⟨by have := hsz.1; simp; omega, by have := hsz.2.1; omega, fun n hn => by
      rcases List.mem_append.1 hn with hn | hn
      · have := hsz.2.2 n hn; exact ⟨this.1, this.2.1, by omega⟩
      · simp at hn; subst hn
        have := hsz.2.2 _ (List.getElem_mem hk); exact ⟨this.1, this.2.1, by omega⟩⟩
  exact ⟨_, _, _, (h.tAt hx1).rd k30 rfl, _, _, _, (h.tAt hx1).rd k30 rfl, _, _, hN.idx, _, _, _, _, _, _, _, hN.rdA, _, _, _, _, g1, M3, w1, trivial, w2⟩
/-- A def is another one. -/
theorem TSt.defSet (h : TSt M M1 B p0 p1 p2 p3 na nc z dc cs ys nds ds) {q : Nat} (hq : q < ds.length) (w : Int) {x1 x2 : Nat} (hx1 : x1 = M.length + 1) (hx2 : x2 = M.length + 2) :
    ∃ n o, idxA Try.prog 22 (.slice (some ⟨z, 0, none⟩) ds.length dc) (.int .i64 (Int.ofNat q)) = some (.pointer (some ⟨n, o, none⟩)) ∧ ∃ M3, wrCells M1 n o [.int .i64 w] = some M3 ∧ True ∧ ∃ a53 n54 n55 a56 n57 n58, rdVar Try.prog M3 32 x1 0 = some (.agg ⟨[.slice a53 n54 n55, .slice a56 n57 n58]⟩) ∧ ∃ M59, wrCells M3 x2 0 [.slice a53 n54 n55, .slice a56 n57 n58] = some M59 ∧
      ∃ a60 n61 n62 a63 n64 n65, rdVar Try.prog M59 32 x2 0 = some (.agg ⟨[.slice a60 n61 n62, .slice a63 n64 n65]⟩) ∧ TurnedK M (B + 1) (.agg ⟨[.slice a60 n61 n62, .slice a63 n64 n65]⟩) M59 := by
  have hi := idx_of (ty := 22) (e := 3) (size := 1) (by kernel_rfl) (by kernel_rfl) (x := z) (o := 0) (n := ds.length) (c := dc) (kk := .i64) (i := Int.ofNat q) rfl hq
  rw [Nat.zero_add, Nat.mul_one] at hi
  have hwr := wrCells_at h.w.defs (o := q) (new := [.int .i64 w]) (by simp [ints]; omega) rfl
  rw [splice_ints _ _ _ hq] at hwr
  have hzl := h.zlt
  have hm : Mod M1 (M1.set z (.cells (ints (ds.set q w)) 1 .live)) [z] := Mod.set _ _ _ (by simp)
  have hzlo := h.lo z (by simp)
  have hzy := h.zy
  have hsz := h.sz
  have hset : (M1.set z (.cells (ints (ds.set q w)) 1 .live))[z]? = some (.cells (ints (ds.set q w)) 1 .live) := by
    rw [List.getElem?_set]; simp [hzl]
  refine ⟨_, _, hi, _, hwr, trivial, turned_fin (nds := nds) (ds := ds.set q w) (cs := cs) (na := na) (nc := nc) (da := some ⟨z, 0, none⟩) (dc := dc) (h.keep.mod hm (fun v hv => by simp at hv; omega)) hx1 hx2 ?_ ?_ (h.nodesS hm (fun v hv => by simp at hv; subst hv; exact hzy.2)) (fun v hv => h.lo v (by simp [hv])) (h.nodesL hm (fun v hv => by simp at hv; subst hv; exact hzy.1)) (.at_ hset (by decide) (by simp [ints])) (fun v hv => by simp [blk] at hv; omega) ⟨by have := hsz.1; omega, by have := hsz.2.1; simp; omega, fun n hn => ?_⟩⟩
  · rw [hx1, hm.2 _ (List.getElem?_eq_some_iff.1 h.t).1 (by simp; omega), h.t]; simp
  · rw [hx2, hm.2 _ (List.getElem?_eq_some_iff.1 h.r).1 (by simp; omega)]; exact h.r
  · have := hsz.2.2 n hn; exact ⟨this.1, this.2.1, by omega⟩
end

end Go.Proofs.YtabkcbaknjenmaaAM

/-
  THE NODE LAWS: a tree that is turned. (Written by genNG18.py.)
-/
set_option linter.unusedVariables false
set_option linter.unusedSimpArgs false
namespace Go.Proofs.YtabkcbaknjenmaaAM
open Go Go.Proofs
set_option maxRecDepth 100000
set_option maxHeartbeats 8000000

theorem k26 : (kindT Try.prog 26).map aggK = some false := by kernel_rfl
theorem rem26 {b : Nat} (hb : 0 < b) (i : Int) (x y : Operand) : binA Try.prog .rem 26 x y (.int .i16 i) (.int .i16 (Int.ofNat b)) = some (.int .i16 (Int.tmod i (Int.ofNat b))) := by
  cases b with
  | zero => omega
  | succ b => kernel_rfl
theorem rem5 {b : Nat} (hb : 0 < b) (a : Nat) (x y : Operand) : binA Try.prog .rem 5 x y (.int .u8 (Int.ofNat a)) (.int .u8 (Int.ofNat b)) = some (.int .u8 (Int.ofNat (a % b))) := by
  cases b with
  | zero => omega
  | succ b =>
    have h : binA Try.prog .rem 5 x y (.int .u8 (Int.ofNat a)) (.int .u8 (Int.ofNat (b + 1))) = some (.int .u8 (Int.tmod (Int.ofNat a) (Int.ofNat (b + 1)))) := by kernel_rfl
    rw [h]; rfl
theorem wrap_nat {n : Nat} (h : n < 9223372036854775808) : IntKind.wrap .i64 (Int.ofNat n) = Int.ofNat n := by rw [← wrapF_eq]; exact wrapN h
theorem wrap_u16 (i : Int) : ∃ u, IntKind.wrap .i64 (IntKind.wrap .u16 i) = Int.ofNat u := by
  have h : 0 ≤ IntKind.wrap .u16 i ∧ IntKind.wrap .u16 i < 65536 := by
    simp only [IntKind.wrap, IntKind.bits, IntKind.signed]
    simp
    omega
  obtain ⟨u, hu⟩ := Int.eq_ofNat_of_zero_le h.1
  rw [hu] at h ⊢
  exact ⟨u, wrap_nat (by omega)⟩
theorem remW {i : Int} {a b : Nat} (h : i = Int.ofNat a) (hb : 0 < b) (hb2 : b < 1000000) (x y : Operand) : binA Try.prog .rem 3 x y (.int .i64 i) (.int .i64 (Int.ofNat b)) = some (.int .i64 (Int.ofNat (a % b))) := by
  rw [h]; exact remN hb hb2 x y
section
variable {M M1 : Mem} {B : Nat} {p0 p1 p2 : Int} {p3 : ByteArray} {na : Option Addr} {nc z dc : Nat} {cs : List Value} {ys : List Nat} {nds : List Nd} {ds : List Int}
theorem TSt.plain0 (h : TSt M M1 B p0 p1 p2 p3 na nc z dc cs ys nds ds) {k : Nat} (hk : k < nds.length) {b y kc : Nat} (hN : NodeAt M1 na nc cs ys nds k nds[k] b y kc) {j : Nat} {v : Value} {nd' : Nd} (hj : j < 5) (hv1 : Value.oneCell' v = true)
    (hv : ∀ ka kc, splice (nds[k].v ka kc) j [v] = nd'.v ka kc) (hkids : nd'.kids = nds[k].kids) (hs : nd'.name.size ≤ 1000 ∧ nd'.arg.size ≤ 1000) {x1 x2 : Nat} (hx1 : x1 = M.length + 1) (hx2 : x2 = M.length + 2) :
    ∃ M3, wrCells M1 b (k * 5 + j) [v] = some M3 ∧ ∃ a53 n54 n55 a56 n57 n58, rdVar Try.prog M3 32 x1 0 = some (.agg ⟨[.slice a53 n54 n55, .slice a56 n57 n58]⟩) ∧ ∃ M59, wrCells M3 x2 0 [.slice a53 n54 n55, .slice a56 n57 n58] = some M59 ∧
      ∃ a60 n61 n62 a63 n64 n65, rdVar Try.prog M59 32 x2 0 = some (.agg ⟨[.slice a60 n61 n62, .slice a63 n64 n65]⟩) ∧ TurnedK M (B + 1) (.agg ⟨[.slice a60 n61 n62, .slice a63 n64 n65]⟩) M59 := by
  have := h.plain hk hN [] hj hv1 hv hkids hs hx1 hx2
  rwa [List.append_nil] at this
end
def turnNames : List ByteArray := [tx [109, 97, 105, 110], tx [102, 110], tx [116, 114, 117, 101], tx [103, 101, 116], tx [43], tx [73, 110, 116], tx [105, 110, 116, 63], tx [120], tx [49], tx [48, 49], tx [45, 48], tx [104, 97, 115], tx [97, 63]]
def turnArgs : List ByteArray := [tx [109, 97, 105, 110], tx [102, 110], tx [120], tx [121, 63], tx [], tx [108, 101, 116], tx [49, 120], tx [95, 97], tx [65]]
theorem turnNames_size : ∀ s ∈ turnNames, s.size ≤ 1000 := by
  have h : turnNames.all (fun s => decide (s.size ≤ 1000)) = true := by decide +kernel
  intro b hb
  have := List.all_eq_true.1 h b hb
  simpa using this
theorem turnArgs_size : ∀ s ∈ turnArgs, s.size ≤ 1000 := by
  have h : turnArgs.all (fun s => decide (s.size ≤ 1000)) = true := by decide +kernel
  intro b hb
  have := List.all_eq_true.1 h b hb
  simpa using this

theorem turned_ret {M : Mem} {v : Value} {nds : List Nd} {ds : List Int} (hT : TreeR M v nds ds) {B : Nat} (hB : B ≤ 250000) (hsz : Sz B nds ds) {a c : Nat} (hc : c < 256) {i : Int} {s : ByteArray} (hs : s.size ≤ 1000) :
    ∃ v' M', Ret Try.prog 10 [.agg ⟨[.int .u8 (Int.ofNat a), .int .u8 (Int.ofNat c), .int .i16 i, .string s]⟩, v] M v' M' ∧ TurnedK M (B + 1) v' M' := by
  have hT0 := hT
  obtain ⟨pa, pc, qa, qc, pcs, rfl, hP1, hP2, hP3⟩ := hT
  refine Ret.wpH hP (K := fun v' M' => TurnedK M (B + 1) v' M') (w10 (p00 := Int.ofNat a) (p01 := Int.ofNat c) (p02 := i) (p03 := s) (p10 := pa) (p10n := nds.length) (p10c := pc) (p11 := qa) (p11n := ds.length) (p11c := qc) (M := M) ?_)
  have hx1 : (M ++ [AObj.cells [.int .u8 (Int.ofNat a), .int .u8 (Int.ofNat c), .int .i16 i, .string s] 4 .live]).length = M.length + 1 := by simp
  have hx2 : (M ++ [AObj.cells [.int .u8 (Int.ofNat a), .int .u8 (Int.ofNat c), .int .i16 i, .string s] 4 .live] ++ [AObj.cells [.slice pa nds.length pc, .slice qa ds.length qc] 2 .live]).length = M.length + 2 := by simp
  have hKR : Keep M (M ++ [AObj.cells [.int .u8 (Int.ofNat a), .int .u8 (Int.ofNat c), .int .i16 i, .string s] 4 .live] ++ [AObj.cells [.slice pa nds.length pc, .slice qa ds.length qc] 2 .live] ++ [AObj.cells [.slice none 0 0, .slice none 0 0] 2 .live]) := ((Keep.app _ _).one _).one _
  have hxR := ((At.last M [.int .u8 (Int.ofNat a), .int .u8 (Int.ofNat c), .int .i16 i, .string s] 4).keep (.app _ [AObj.cells [.slice pa nds.length pc, .slice qa ds.length qc] 2 .live])).keep (.app _ [AObj.cells [.slice none 0 0, .slice none 0 0] 2 .live])
  have htR := (Keep.app _ [AObj.cells [.slice none 0 0, .slice none 0 0] 2 .live]).get (get_last (M ++ [AObj.cells [.int .u8 (Int.ofNat a), .int .u8 (Int.ofNat c), .int .i16 i, .string s] 4 .live]) (AObj.cells [.slice pa nds.length pc, .slice qa ds.length qc] 2 .live))
  have hrR := get_last (M ++ [AObj.cells [.int .u8 (Int.ofNat a), .int .u8 (Int.ofNat c), .int .i16 i, .string s] 4 .live] ++ [AObj.cells [.slice pa nds.length pc, .slice qa ds.length qc] 2 .live]) (AObj.cells [.slice none 0 0, .slice none 0 0] 2 .live)
  have hlR : (M ++ [AObj.cells [.int .u8 (Int.ofNat a), .int .u8 (Int.ofNat c), .int .i16 i, .string s] 4 .live] ++ [AObj.cells [.slice pa nds.length pc, .slice qa ds.length qc] 2 .live] ++ [AObj.cells [.slice none 0 0, .slice none 0 0] 2 .live]).length = M.length + 3 := by simp
  rw [hx1] at htR
  rw [hx2] at hrR
  have hTR := hT0.keep hKR
  have hrdT := (at_of htR).rdA k32 s32
  rw [← hx1] at hrdT
  generalize hx1v : (M ++ [AObj.cells [.int .u8 (Int.ofNat a), .int .u8 (Int.ofNat c), .int .i16 i, .string s] 4 .live]).length = x1 at *
  generalize hx2v : (M ++ [AObj.cells [.int .u8 (Int.ofNat a), .int .u8 (Int.ofNat c), .int .i16 i, .string s] 4 .live] ++ [AObj.cells [.slice pa nds.length pc, .slice qa ds.length qc] 2 .live]).length = x2 at *
  generalize hMR : M ++ [AObj.cells [.int .u8 (Int.ofNat a), .int .u8 (Int.ofNat c), .int .i16 i, .string s] 4 .live] ++ [AObj.cells [.slice pa nds.length pc, .slice qa ds.length qc] 2 .live] ++ [AObj.cells [.slice none 0 0, .slice none 0 0] 2 .live] = MR at *
  obtain ⟨na, nc, z, dc, cs, ys, M12, hcopy, hK12, hW⟩ := copy_ret hTR (by have := hsz.1; omega) (by have := hsz.2.1; omega) (fun n hn => by have := (hsz.2.2 n hn).2.2; omega)
  have ht12 := hK12.get htR
  have hwr := wrCells_at ht12 (o := 0) (new := [.slice na nds.length nc, .slice (some ⟨z, 0, none⟩) ds.length dc]) (by show 0 + 2 ≤ 2; decide) rfl
  have hsp : splice [.slice pa nds.length pc, .slice qa ds.length qc] 0 [.slice na nds.length nc, .slice (some ⟨z, 0, none⟩) ds.length dc] = [.slice na nds.length nc, .slice (some ⟨z, 0, none⟩) ds.length dc] := rfl
  rw [hsp, ← hx1] at hwr
  have htl := (List.getElem?_eq_some_iff.1 ht12).1
  have hm : Mod M12 (M12.set x1 (.cells [.slice na nds.length nc, .slice (some ⟨z, 0, none⟩) ds.length dc] 2 .live)) [x1] := Mod.set _ _ _ (by simp)
  have hlo : ∀ y ∈ z :: (blk na ++ ys), M.length + 3 ≤ y := fun y hy => by have := hW.lo y hy; omega
  have hno : ∀ y ∈ z :: (blk na ++ ys), y ∉ [x1] := fun y hy hh => by have := hlo y hy; simp at hh; omega
  have hK13 : Keep M (M12.set x1 (.cells [.slice na nds.length nc, .slice (some ⟨z, 0, none⟩) ds.length dc] 2 .live)) := (hKR.trans hK12).mod hm (fun y hy => by simp at hy; omega)
  have h : TSt M (M12.set x1 (.cells [.slice na nds.length nc, .slice (some ⟨z, 0, none⟩) ds.length dc] 2 .live)) B (Int.ofNat a) (Int.ofNat c) i s na nc z dc cs ys nds ds := by
    refine ⟨hK13, hm.at_ (hxR.keep hK12) (by simp; omega), ?_, ?_, ⟨?_, hW.kids.mod hm (fun y hy => hno y (by simp [hy])), ?_, hW.dcap, hW.nd, fun y hy => by have := hlo y hy; omega⟩, hlo, hsz⟩
    · rw [← hx1, List.getElem?_set]; rw [← hx1] at htl; simp [htl]
    · rw [hm.2 _ (by have := hK12.len; omega) (by simp; omega)]; exact hK12.get hrR
    · exact hW.nodes.low (by omega) hK13 (fun y hy => by rw [List.getElem?_set_ne (by omega)])
    · rw [hm.2 z (List.getElem?_eq_some_iff.1 hW.defs).1 (hno z (by simp))]; exact hW.defs
  generalize M12.set x1 (.cells [.slice na nds.length nc, .slice (some ⟨z, 0, none⟩) ds.length dc] 2 .live) = M13 at *
  refine ⟨_, _, _, _, _, _, hrdT, _, _, _, _, _, _, M12, hcopy, _, hwr, _, _, _, (h.tAt hx1).rd k30 rfl, cnd_of (fun _ => h.same hx1 hx2) (fun hn0 => ?_)⟩
  have hpos : 0 < nds.length := by have := nek hn0; omega
  have hk : c % nds.length < nds.length := Nat.mod_lt _ hpos
  have hn3 : nds.length < 1000000 := by have := hsz.1; omega
  obtain ⟨b, y, kc, hN⟩ := h.open hk
  have hszk := hsz.2.2 _ (List.getElem_mem hk)
  obtain ⟨u, hu⟩ := wrap_u16 i
  refine ⟨_, h.x.rd k5 rfl, _, _, _, (h.tAt hx1).rd k30 rfl, _, remW (wrap_nat (by omega)) hpos hn3 _ _, _, _, _, (h.tAt hx1).rd k30 rfl, _, _, hN.idx, _, _, _, hN.rd, cnd_of (fun hk0 => ?_) (fun hk0 => ?_)⟩
  · have hkpos : 0 < nds[c % nds.length].kids.length := leF_lt hk0
    have hq : u % nds[c % nds.length].kids.length < nds[c % nds.length].kids.length := Nat.mod_lt _ hkpos
    refine ⟨_, h.x.rd k26 rfl, _, _, _, hN.rd, _, remW hu hkpos (by omega) _ _, trivial, _, h.x.rd k5 rfl, _, rem5 (by decide) _ _ _, ?_⟩
    refine cnd_of (fun _ => ?c0) fun _ => cnd_of (fun _ => ?c1) fun _ => cnd_of (fun _ => ?c2) fun _ => cnd_of (fun _ => ?c3) fun _ => cnd_of (fun _ => ?c4) fun _ => cnd_of (fun _ => ?c5) fun _ => cnd_of (fun _ => ?c6) fun _ => cnd_of (fun _ => ?c7) fun _ => cnd_of (fun _ => ?c8) fun _ => cnd_of (fun _ => ?c9) fun _ => cnd_of (fun _ => ?c10) fun _ => cnd_of (fun _ => ?c11) fun _ => cnd_of (fun _ => ?c12) fun _ => cnd_of (fun _ => ?c13) fun _ => ?cx
    case c0 => exact ⟨_, h.x.rd k26 rfl, _, rem26 (by decide) _ _ _, h.plain0 hk hN (j := 0) (nd' := { nds[c % nds.length] with kind := IntKind.wrap .i64 (Int.tmod i (Int.ofNat 40)) }) (by decide) rfl (fun _ _ => rfl) rfl ⟨hszk.1, hszk.2.1⟩ hx1 hx2⟩
    case c1 => exact ⟨_, h.x.rd k9 rfl, h.plain0 hk hN (j := 1) (nd' := { nds[c % nds.length] with name := s }) (by decide) rfl (fun _ _ => rfl) rfl ⟨hs, hszk.2.1⟩ hx1 hx2⟩
    case c2 => exact ⟨_, h.x.rd k9 rfl, h.plain0 hk hN (j := 2) (nd' := { nds[c % nds.length] with arg := s }) (by decide) rfl (fun _ _ => rfl) rfl ⟨hszk.1, hs⟩ hx1 hx2⟩
    case c3 => exact ⟨_, h.x.rd k26 rfl, h.plain0 hk hN (j := 4) (nd' := { nds[c % nds.length] with pos := IntKind.wrap .i64 i }) (by decide) rfl (fun _ _ => rfl) rfl ⟨hszk.1, hszk.2.1⟩ hx1 hx2⟩
    case c4 =>
      obtain ⟨n, o, q1, q2⟩ := h.kid hk hN hq (IntKind.wrap .i64 (Int.tmod i (Int.ofNat 200))) hx1 hx2
      exact ⟨_, _, _, hN.rd, cnd_t' hk0 ⟨_, _, _, hN.rd, _, h.x.rd k26 rfl, _, rem26 (by decide) _ _ _, n, o, q1, q2⟩⟩
    case c5 => exact ⟨_, _, _, hN.rd, cnd_t' hk0 ⟨_, _, _, hN.rd, h.kidLess (by omega) hk hN hq hx1 hx2⟩⟩
    case c6 => exact ⟨_, _, _, hN.rd, _, h.x.rd k26 rfl, _, rem26 (by decide) _ _ _, h.kidMore (by omega) hk hN _ hx1 hx2⟩
    case c7 => exact h.defMore (by omega) _ hx1 hx2
    case c8 => exact h.defLess (by omega) hx1 hx2
    case c9 => exact h.nodeLess (by omega) hpos hx1 hx2
    case c10 => exact h.nodeMore (by omega) hk hN hx1 hx2
    case c11 =>
      refine ⟨_, _, _, (h.tAt hx1).rd k22 rfl, cnd_of (fun hd0 => ?_) (fun _ => h.same hx1 hx2)⟩
      have hdpos : 0 < ds.length := leF_lt hd0
      exact ⟨_, _, _, (h.tAt hx1).rd k22 rfl, _, h.x.rd k5 rfl, _, _, _, (h.tAt hx1).rd k22 rfl, _, remW (wrap_nat (by omega)) hdpos (by have := hsz.2.1; omega) _ _, _, h.x.rd k26 rfl, _, rem26 (by decide) _ _ _, h.defSet (Nat.mod_lt _ hdpos) _ hx1 hx2⟩
    case c12 =>
      have hlt : u % 13 < turnNames.length := Nat.mod_lt _ (by decide)
      obtain ⟨y2, o2, q1, q2⟩ := strs_at (Row.new M13 (strs turnNames) []) hlt (c := 13) rfl
      have hsz2 := turnNames_size _ (List.getElem_mem hlt)
      generalize turnNames[u % 13] = s2 at *
      exact ⟨_, (h.x.keep (.app M13 _)).rd k26 rfl, _, remW hu (by decide) (by decide) _ _, _, _, q1, _, q2, h.plain hk hN [AObj.cells (strs turnNames) 1 .live] (j := 1) (nd' := { nds[c % nds.length] with name := s2 }) (by decide) rfl (fun _ _ => rfl) rfl ⟨hsz2, hszk.2.1⟩ hx1 hx2⟩
    case c13 =>
      have hlt : u % 9 < turnArgs.length := Nat.mod_lt _ (by decide)
      obtain ⟨y2, o2, q1, q2⟩ := strs_at (Row.new M13 (strs turnArgs) []) hlt (c := 9) rfl
      have hsz2 := turnArgs_size _ (List.getElem_mem hlt)
      generalize turnArgs[u % 9] = s2 at *
      exact ⟨_, (h.x.keep (.app M13 _)).rd k26 rfl, _, remW hu (by decide) (by decide) _ _, _, _, q1, _, q2, h.plain hk hN [AObj.cells (strs turnArgs) 1 .live] (j := 2) (nd' := { nds[c % nds.length] with arg := s2 }) (by decide) rfl (fun _ _ => rfl) rfl ⟨hszk.1, hsz2⟩ hx1 hx2⟩
    case cx => exact h.same hx1 hx2
  · have hkz := leF_ge hk0
    refine ⟨_, h.x.rd k5 rfl, _, rem5 (by decide) _ _ _, ?_⟩
    refine cnd_of (fun _ => ?c0) fun _ => cnd_of (fun _ => ?c1) fun _ => cnd_of (fun _ => ?c2) fun _ => cnd_of (fun _ => ?c3) fun _ => cnd_of (fun _ => ?c4) fun _ => cnd_of (fun _ => ?c5) fun _ => cnd_of (fun _ => ?c6) fun _ => cnd_of (fun _ => ?c7) fun _ => cnd_of (fun _ => ?c8) fun _ => cnd_of (fun _ => ?c9) fun _ => cnd_of (fun _ => ?c10) fun _ => cnd_of (fun _ => ?c11) fun _ => cnd_of (fun _ => ?c12) fun _ => cnd_of (fun _ => ?c13) fun _ => ?cx
    case c0 => exact ⟨_, h.x.rd k26 rfl, _, rem26 (by decide) _ _ _, h.plain0 hk hN (j := 0) (nd' := { nds[c % nds.length] with kind := IntKind.wrap .i64 (Int.tmod i (Int.ofNat 40)) }) (by decide) rfl (fun _ _ => rfl) rfl ⟨hszk.1, hszk.2.1⟩ hx1 hx2⟩
    case c1 => exact ⟨_, h.x.rd k9 rfl, h.plain0 hk hN (j := 1) (nd' := { nds[c % nds.length] with name := s }) (by decide) rfl (fun _ _ => rfl) rfl ⟨hs, hszk.2.1⟩ hx1 hx2⟩
    case c2 => exact ⟨_, h.x.rd k9 rfl, h.plain0 hk hN (j := 2) (nd' := { nds[c % nds.length] with arg := s }) (by decide) rfl (fun _ _ => rfl) rfl ⟨hszk.1, hs⟩ hx1 hx2⟩
    case c3 => exact ⟨_, h.x.rd k26 rfl, h.plain0 hk hN (j := 4) (nd' := { nds[c % nds.length] with pos := IntKind.wrap .i64 i }) (by decide) rfl (fun _ _ => rfl) rfl ⟨hszk.1, hszk.2.1⟩ hx1 hx2⟩
    case c4 => exact ⟨_, _, _, hN.rd, cnd_f' hk0 (h.same hx1 hx2)⟩
    case c5 => exact ⟨_, _, _, hN.rd, cnd_f' hk0 (h.same hx1 hx2)⟩
    case c6 => exact ⟨_, _, _, hN.rd, _, h.x.rd k26 rfl, _, rem26 (by decide) _ _ _, h.kidMore (by omega) hk hN _ hx1 hx2⟩
    case c7 => exact h.defMore (by omega) _ hx1 hx2
    case c8 => exact h.defLess (by omega) hx1 hx2
    case c9 => exact h.nodeLess (by omega) hpos hx1 hx2
    case c10 => exact h.nodeMore (by omega) hk hN hx1 hx2
    case c11 =>
      refine ⟨_, _, _, (h.tAt hx1).rd k22 rfl, cnd_of (fun hd0 => ?_) (fun _ => h.same hx1 hx2)⟩
      have hdpos : 0 < ds.length := leF_lt hd0
      exact ⟨_, _, _, (h.tAt hx1).rd k22 rfl, _, h.x.rd k5 rfl, _, _, _, (h.tAt hx1).rd k22 rfl, _, remW (wrap_nat (by omega)) hdpos (by have := hsz.2.1; omega) _ _, _, h.x.rd k26 rfl, _, rem26 (by decide) _ _ _, h.defSet (Nat.mod_lt _ hdpos) _ hx1 hx2⟩
    case c12 =>
      have hlt : u % 13 < turnNames.length := Nat.mod_lt _ (by decide)
      obtain ⟨y2, o2, q1, q2⟩ := strs_at (Row.new M13 (strs turnNames) []) hlt (c := 13) rfl
      have hsz2 := turnNames_size _ (List.getElem_mem hlt)
      generalize turnNames[u % 13] = s2 at *
      exact ⟨_, (h.x.keep (.app M13 _)).rd k26 rfl, _, remW hu (by decide) (by decide) _ _, _, _, q1, _, q2, h.plain hk hN [AObj.cells (strs turnNames) 1 .live] (j := 1) (nd' := { nds[c % nds.length] with name := s2 }) (by decide) rfl (fun _ _ => rfl) rfl ⟨hsz2, hszk.2.1⟩ hx1 hx2⟩
    case c13 =>
      have hlt : u % 9 < turnArgs.length := Nat.mod_lt _ (by decide)
      obtain ⟨y2, o2, q1, q2⟩ := strs_at (Row.new M13 (strs turnArgs) []) hlt (c := 9) rfl
      have hsz2 := turnArgs_size _ (List.getElem_mem hlt)
      generalize turnArgs[u % 9] = s2 at *
      exact ⟨_, (h.x.keep (.app M13 _)).rd k26 rfl, _, remW hu (by decide) (by decide) _ _, _, _, q1, _, q2, h.plain hk hN [AObj.cells (strs turnArgs) 1 .live] (j := 2) (nd' := { nds[c % nds.length] with arg := s2 }) (by decide) rfl (fun _ _ => rfl) rfl ⟨hszk.1, hsz2⟩ hx1 hx2⟩
    case cx => exact h.same hx1 hx2
end Go.Proofs.YtabkcbaknjenmaaAM
