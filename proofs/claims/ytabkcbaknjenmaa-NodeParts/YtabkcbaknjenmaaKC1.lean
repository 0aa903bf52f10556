/-
  Part KC1 of the proof: merged texts.
-/
import Derived.Test.YtabkcbaknjenmaaKA3
import Derived.Test.YtabkcbaknjenmaaRows
import Derived.Test.YtabkcbaknjenmaaKB5

/-
  THE NODE LAWS: what is to be shown for functions, printed by a program: back, checked, right, size, depth
-/
set_option linter.unusedVariables false
namespace Go.Proofs.YtabkcbaknjenmaaAM
open Go Go.Proofs
set_option maxRecDepth 100000
set_option maxHeartbeats 4000000
def ann108 : Ann := [([1, 0], [0, 1, 3], [(some 0, []), (none, [])])]
def ann73 : Ann := [([1, 1, 0, 1, 0, 0, 1, 1, 0, 0, 1, 1, 0, 1, 0], [2, 3, 4, 5, 7, 24], []), ([1, 1, 0, 1, 0], [2, 3, 4, 15, 16, 17], [(some 0, []), (none, [])])]
def ann74 : Ann := [([1, 1, 0, 1, 0], [2, 3, 4, 5, 13], [])]
def ann75 : Ann := [([1, 1, 0, 1, 0], [3, 4, 7, 21, 22, 8, 23], [(some 0, [(8, some 4)])])]
def ann76 : Ann := [([1, 1, 0, 1, 0, 0, 1, 0, 0, 1, 1, 1, 0], [1, 2, 3, 4, 36, 37, 38], [(some 2, [])]), ([1, 1, 0, 1, 0], [1, 3, 2, 4], [(some 0, [(2, some 3)])])]
def ann43 : Ann := [([1, 1, 1, 1, 0, 1, 0], [1, 5, 25, 26, 2, 27], [(some 0, [(2, some 22)]), (none, [(2, some 22), (3, some 3), (4, some 4)])])]
theorem w96 {p0 : Option Addr} {p0n p0c : Nat} {M : Mem} {K : Value → Mem → Prop} (h : (∃ (x0 : FuncId),
 ∃ (t1 : List Value),
 ∃ (M2 : Mem), Ret Try.prog 105 [.slice p0 p0n p0c] M (.func (Fn.func x0) (Array.mk []) (Array.mk t1)) M2 ∧ K (.func (Fn.func x0) (Array.mk []) (Array.mk t1)) M2) ∨
 ∃ (M3 : Mem), Ret Try.prog 105 [.slice p0 p0n p0c] M .nilFunc M3 ∧ K .nilFunc M3) :
 Held (wpRet Try.prog 96 true [] [.slice p0 p0n p0c] M K) := held_of (by kernel_rfl) h
theorem w105 {p0 : Option Addr} {p0n p0c : Nat} {M : Mem} {K : Value → Mem → Prop} (h : K (.func (Fn.func 108) (Array.mk []) (Array.mk [.pointer (some (.mk (List.length M) 0 none))])) (M ++ [AObj.cells [.slice p0 p0n p0c] 1 Mode.live])) :
 Held (wpRet Try.prog 105 true [] [.slice p0 p0n p0c] M K) := held_of (by kernel_rfl) h
theorem w108 {p0 c0 : Nat} {M : Mem} {K : Value → Mem → Prop} (h : ∃ (a0 : Option Addr),
 ∃ (n1 : Nat),
 ∃ (n2 : Nat),
 rdVar Try.prog M 22 c0 0 = some (.slice a0 n1 n2) ∧
 ∀ (t3 : List Value),
 TIn 19
 [(0, .func (Fn.yield p0) (Array.mk []) (Array.mk [])), (1, .pointer (some (.mk c0 0 none))),
 (3, .int .i64 (wrapF .i64 (Int.sub (Int.ofNat n1) (Int.ofNat 1))))]
 t3 →
 (∃ (M4 : Mem), LpT Try.prog (Env.fn 108) [1, 0] t3 [] M false (.exit 0) [] M4 ∧ ∀ (w5 : Nat → Value), K (undef) M4) ∨
 ∃ (M6 : Mem), LpT Try.prog (Env.fn 108) [1, 0] t3 [] M false .ret [] M6 ∧ ∀ (w7 : Nat → Value), K (undef) M6) :
 Held (wpRet Try.prog 108 true ann108 [.func (Fn.yield p0) (Array.mk []) (Array.mk []), .pointer (some (.mk c0 0 none))] M K) := held_of (by kernel_rfl) h
theorem loop108_0 {ut0 ut1 ut1o : Nat} {d : List ADef} {rc : Bool} (Inv : Nat → Int → Mem → Prop) (R0 : Mem → Prop) (R1 : Mem → Prop)
 (step : ∀ (n : Nat) (t3 : Int) (M : Mem), Inv n t3 M →
 cnd (leF (Int.ofNat 0) t3)
 (∃ (a0 : Option Addr),
 ∃ (n1 : Nat),
 ∃ (n2 : Nat),
 rdVar Try.prog M 22 ut1 ut1o = some (.slice a0 n1 n2) ∧
 ∃ (n3 : Nat),
 ∃ (n4 : Nat),
 idxA Try.prog 22 (.slice a0 n1 n2) (.int .i64 t3) = some (.pointer (some (.mk n3 n4 none))) ∧
 ∃ (i5 : Int),
 rdVar Try.prog M 3 n3 n4 = some (.int .i64 i5) ∧
 ∃ (b6 : Bool),
 ∃ (M7 : Mem),
 Rd Try.prog ut0 [.int .i64 t3, .int .i64 i5] M b6 M7 ∧
 cnd (!b6) (R1 M7) (∃ (n8 : Nat), n8 < n ∧ Inv n8 (wrapF .i64 (Int.sub t3 (Int.ofNat 1))) M7))
 (R0 M) )
 {n : Nat} {t3 : Int} {M : Mem} (h0 : Inv n t3 M) {t0 : List Value} (hT : TIn 19 [(0, .func (.yield ut0) (Array.mk []) (Array.mk [])), (1, .pointer (some (.mk ut1 ut1o none))), (3, .int .i64 t3)] t0) :
 (∃ (M' : Mem), LpT Try.prog (Env.fn 108) [1, 0] t0 d M rc (.exit 0) [] M' ∧ R0 M') ∨ (∃ (M' : Mem), LpT Try.prog (Env.fn 108) [1, 0] t0 d M rc .ret [] M' ∧ R1 M') := by
 rcases loopT (P := Try.prog) (E := (Env.fn 108)) (sym := true) (ann := ann108) (p := [1, 0]) (stepC (codeOf Try.prog 108 [1, 0]) 0) (by kernel_rfl) (by kernel_rfl) [(0, .func (.yield ut0) (Array.mk []) (Array.mk [])), (1, .pointer (some (.mk ut1 ut1o none)))] [3] (by kernel_rfl) (fun n xs M => match xs with | [.int .i64 t3] => Inv n t3 M | _ => False) [((.exit 0), [], fun xs M => match xs with | [] => R0 M | _ => False), (.ret, [], fun xs M => match xs with | [] => R1 M | _ => False)] (fun n xs M h uu => by split at h <;> first | exact h.elim | exact (held_of (by kernel_rfl) (step n _ M h)).ok) (xs := [.int .i64 t3]) hT rfl h0 with ⟨_, _, h, g⟩ | ⟨_, _, h, g⟩
 · split at g <;> first | exact (.inl ⟨_, h, g⟩) | exact g.elim
 · split at g <;> first | exact (.inr ⟨_, h, g⟩) | exact g.elim

theorem w73 {p00 : Option Addr} {p00n p00c : Nat} {p01 : Option Addr} {p01n p01c : Nat} {M : Mem} {K : Value → Mem → Prop} (h : ∃ (a0 : Option Addr),
 ∃ (n1 : Nat),
 ∃ (n2 : Nat),
 rdVar Try.prog
 (M ++ [AObj.cells [.slice p00 p00n p00c, .slice p01 p01n p01c] 2 Mode.live] ++ [AObj.cells [.slice none 0 0] 1 Mode.live] ++
 [AObj.cells [.bool false] 1 Mode.live])
 30 (List.length M) 0 =
 some (Value.slice a0 n1 n2) ∧
 ∃ (a3 : Option Addr),
 ∃ (n4 : Nat),
 ∃ (n5 : Nat),
 ∃ (M6 : Mem),
 makeA Try.prog
 (M ++ [AObj.cells [.slice p00 p00n p00c, .slice p01 p01n p01c] 2 Mode.live] ++ [AObj.cells [.slice none 0 0] 1 Mode.live] ++
 [AObj.cells [.bool false] 1 Mode.live])
 22 (.int .i64 (Int.ofNat 0)) (.int .i64 (Int.ofNat n1)) =
 some (Value.slice a3 n4 n5, M6) ∧
 ∃ (M7 : Mem),
 wrCells (M6 ++ [AObj.cells [.slice none 0 0] 1 Mode.live]) (List.length M6) 0 [.slice a3 n4 n5] = some M7 ∧
 ∃ (a8 : Option Addr),
 ∃ (n9 : Nat),
 ∃ (n10 : Nat),
 rdVar Try.prog M7 30 (List.length M) 0 = some (.slice a8 n9 n10) ∧
 ∀ (t11 : List Value),
 TIn 48
 [(2, .pointer (some (.mk (List.length (M ++ [AObj.cells [.slice p00 p00n p00c, .slice p01 p01n p01c] 2 Mode.live])) 0 none))),
 (3,
 .pointer
 (some
 (.mk
 (List.length
 (M ++ [AObj.cells [.slice p00 p00n p00c, .slice p01 p01n p01c] 2 Mode.live] ++ [AObj.cells [.slice none 0 0] 1 Mode.live]))
 0 none))),
 (4, .pointer (some (.mk (List.length M6) 0 none))), (15, .slice a8 n9 n10), (16, .int .i64 (Int.ofNat n9)),
 (17, .int .i64 (Int.ofNat 0))]
 t11 →
 (∃ (M12 : List ADef),
 ∃ (b13 : Bool),
 ∃ (M14 : Mem),
 LpX Try.prog (Env.fn 73) [1, 1, 0, 1, 0] t11 [] M7 false (.exit 0) [] M12 b13 M14 ∧
 ∀ (w15 : Nat → Value),
 ∃ (a16 : Option Addr),
 ∃ (n17 : Nat),
 ∃ (n18 : Nat),
 rdVar Try.prog M14 22 (List.length M6) 0 = some (.slice a16 n17 n18) ∧
 ∃ (M19 : Mem),
 wrCells M14 (List.length (M ++ [AObj.cells [.slice p00 p00n p00c, .slice p01 p01n p01c] 2 Mode.live])) 0
 [.slice a16 n17 n18] =
 some M19 ∧
 ∃ (M20 : Mem),
 wrCells M19
 (List.length
 (M ++ [AObj.cells [.slice p00 p00n p00c, .slice p01 p01n p01c] 2 Mode.live] ++
 [AObj.cells [.slice none 0 0] 1 Mode.live]))
 0 [.bool true] =
 some M20 ∧
 ∃ (M21 : Mem),
 UnwM M12 M20 M21 ∧
 ∃ (a22 : Option Addr),
 ∃ (n23 : Nat),
 ∃ (n24 : Nat),
 rdVar Try.prog M21 22
 (List.length (M ++ [AObj.cells [.slice p00 p00n p00c, .slice p01 p01n p01c] 2 Mode.live])) 0 =
 some (Value.slice a22 n23 n24) ∧
 ∃ (b25 : Bool),
 rdVar Try.prog M21 4
 (List.length
 (M ++ [AObj.cells [.slice p00 p00n p00c, .slice p01 p01n p01c] 2 Mode.live] ++
 [AObj.cells [.slice none 0 0] 1 Mode.live]))
 0 =
 some (Value.bool b25) ∧
 K (.tuple (Array.mk [.slice a22 n23 n24, .bool b25])) M21) ∨
 ∃ (M26 : List ADef),
 ∃ (b27 : Bool),
 ∃ (M28 : Mem),
 LpX Try.prog (Env.fn 73) [1, 1, 0, 1, 0] t11 [] M7 false .ret [] M26 b27 M28 ∧
 ∀ (w29 : Nat → Value),
 ∃ (M30 : Mem),
 UnwM M26 M28 M30 ∧
 ∃ (a31 : Option Addr),
 ∃ (n32 : Nat),
 ∃ (n33 : Nat),
 rdVar Try.prog M30 22 (List.length (M ++ [AObj.cells [.slice p00 p00n p00c, .slice p01 p01n p01c] 2 Mode.live])) 0 =
 some (Value.slice a31 n32 n33) ∧
 ∃ (b34 : Bool),
 rdVar Try.prog M30 4
 (List.length
 (M ++ [AObj.cells [.slice p00 p00n p00c, .slice p01 p01n p01c] 2 Mode.live] ++
 [AObj.cells [.slice none 0 0] 1 Mode.live]))
 0 =
 some (Value.bool b34) ∧
 K (.tuple (Array.mk [.slice a31 n32 n33, .bool b34])) M30) :
 Held (wpRet Try.prog 73 true ann73 [.agg (Array.mk [.slice p00 p00n p00c, .slice p01 p01n p01c])] M K) := held_of (by kernel_rfl) h
theorem loop73_0 {ut2 ut2o ut3 ut3o ut4 ut4o : Nat} {ut15 : Option Addr} {ut15n ut15c : Nat} {ut16 : Int} (Inv : Nat → Int → List ADef → Mem → Prop) (R0 : List ADef → Mem → Prop) (R1 : List ADef → Mem → Prop)
 (step : ∀ (n : Nat) (t17 : Int) (d : List ADef) (rc : Bool) (M : Mem), Inv n t17 d M →
 cnd (!leF ut16 t17)
 (∃ (n0 : Nat),
 ∃ (n1 : Nat),
 idxA Try.prog 30 (.slice ut15 ut15n ut15c) (.int .i64 t17) = some (.pointer (some (.mk n0 n1 none))) ∧
 ∃ (i2 : Int),
 ∃ (s3 : ByteArray),
 ∃ (s4 : ByteArray),
 ∃ (a5 : Option Addr),
 ∃ (n6 : Nat),
 ∃ (n7 : Nat),
 ∃ (i8 : Int),
 rdVar Try.prog M 24 n0 n1 = some (.agg (Array.mk [.int .i64 i2, .string s3, .string s4, .slice a5 n6 n7, .int .i64 i8])) ∧
 ∃ (M9 : Mem),
 wrCells
 (M ++ [AObj.cells [.int .i64 (Int.ofNat 0)] 1 Mode.live] ++
 [AObj.cells
 [.int .i64 (Int.ofNat 0), .string (ByteArray.mk #[]), .string (ByteArray.mk #[]), .slice none 0 0,
 .int .i64 (Int.ofNat 0)]
 5 Mode.live])
 (List.length M) 0 [.int .i64 t17] =
 some M9 ∧
 ∃ (M10 : Mem),
 wrCells M9 (List.length (M ++ [AObj.cells [.int .i64 (Int.ofNat 0)] 1 Mode.live])) 0
 [.int .i64 i2, .string s3, .string s4, .slice a5 n6 n7, .int .i64 i8] =
 some M10 ∧
 ∃ (M11 : Mem),
 wrCells (M10 ++ [AObj.cells [.int .i64 (Int.ofNat 0)] 1 Mode.live]) (List.length M10) 0 [.int .i64 (Int.ofNat 1)] = some M11 ∧
 ∃ (a12 : Option Addr),
 ∃ (n13 : Nat),
 ∃ (n14 : Nat),
 rdVar Try.prog M11 22 (List.length (M ++ [AObj.cells [.int .i64 (Int.ofNat 0)] 1 Mode.live])) 3 = some (.slice a12 n13 n14) ∧
 ((∃ (x15 : FuncId),
 ∃ (t16 : List Value),
 ∃ (M17 : Mem),
 Ret Try.prog 96 [.slice a12 n13 n14] M11 (.func (Fn.func x15) (Array.mk []) (Array.mk t16)) M17 ∧
 ∀ (t18 : List Value),
 TIn 48
 [(2, .pointer (some (.mk ut2 ut2o none))), (3, .pointer (some (.mk ut3 ut3o none))),
 (4, .pointer (some (.mk ut4 ut4o none))), (5, .pointer (some (.mk (List.length M) 0 none))),
 (7, .pointer (some (.mk (List.length M10) 0 none))), (24, .func (Fn.func x15) (Array.mk []) (Array.mk t16))]
 t18 →
 (∃ (M19 : Mem),
 Lp Try.prog (Env.fn 73) [1, 1, 0, 1, 0, 0, 1, 1, 0, 0, 1, 1, 0, 1, 0] (St.mk t18 d M17 rc) .normal
 (St.mk t18 (ADef.mark (List.length M17) :: d) M19 rc) ∧
 ∃ (a20 : Option Addr),
 ∃ (n21 : Nat),
 ∃ (n22 : Nat),
 rdVar Try.prog M19 22 ut4 ut4o = some (.slice a20 n21 n22) ∧
 ∃ (i23 : Int),
 rdVar Try.prog M19 3 (List.length M10) 0 = some (.int .i64 i23) ∧
 ∃ (a24 : Option Addr),
 ∃ (n25 : Nat),
 ∃ (n26 : Nat),
 ∃ (M27 : Mem),
 appendA Try.prog (M19 ++ [AObj.cells [.int .i64 i23] 1 Mode.live]) 22 22
 (.slice a20 n21 n22) (.slice (some (.mk (List.length M19) 0 none)) 1 1) =
 some (Value.slice a24 n25 n26, M27) ∧
 ∃ (M28 : Mem),
 wrCells M27 ut4 ut4o [.slice a24 n25 n26] = some M28 ∧
 ∃ (n29 : Nat),
 n29 < n ∧
 Inv n29 (wrapF .i64 (Int.add t17 (Int.ofNat 1))) (ADef.mark (List.length M17) :: d)
 M28) ∨
 ∃ (M30 : Mem),
 Lp Try.prog (Env.fn 73) [1, 1, 0, 1, 0, 0, 1, 1, 0, 0, 1, 1, 0, 1, 0] (St.mk t18 d M17 rc) .ret
 (St.mk t18 (ADef.mark (List.length M17) :: d) M30 rc) ∧
 R1 (ADef.mark (List.length M17) :: d) M30) ∨
 ∃ (M31 : Mem),
 Ret Try.prog 96 [.slice a12 n13 n14] M11 .nilFunc M31 ∧
 ∀ (t32 : List Value),
 TIn 48
 [(2, .pointer (some (.mk ut2 ut2o none))), (3, .pointer (some (.mk ut3 ut3o none))),
 (4, .pointer (some (.mk ut4 ut4o none))), (5, .pointer (some (.mk (List.length M) 0 none))),
 (7, .pointer (some (.mk (List.length M10) 0 none))), (24, .nilFunc)]
 t32 →
 (∃ (M33 : Mem),
 Lp Try.prog (Env.fn 73) [1, 1, 0, 1, 0, 0, 1, 1, 0, 0, 1, 1, 0, 1, 0] (St.mk t32 d M31 rc) .normal
 (St.mk t32 (ADef.mark (List.length M31) :: d) M33 rc) ∧
 ∃ (a34 : Option Addr),
 ∃ (n35 : Nat),
 ∃ (n36 : Nat),
 rdVar Try.prog M33 22 ut4 ut4o = some (.slice a34 n35 n36) ∧
 ∃ (i37 : Int),
 rdVar Try.prog M33 3 (List.length M10) 0 = some (.int .i64 i37) ∧
 ∃ (a38 : Option Addr),
 ∃ (n39 : Nat),
 ∃ (n40 : Nat),
 ∃ (M41 : Mem),
 appendA Try.prog (M33 ++ [AObj.cells [.int .i64 i37] 1 Mode.live]) 22 22 (.slice a34 n35 n36)
 (.slice (some (.mk (List.length M33) 0 none)) 1 1) =
 some (Value.slice a38 n39 n40, M41) ∧
 ∃ (M42 : Mem),
 wrCells M41 ut4 ut4o [.slice a38 n39 n40] = some M42 ∧
 ∃ (n43 : Nat),
 n43 < n ∧
 Inv n43 (wrapF .i64 (Int.add t17 (Int.ofNat 1))) (ADef.mark (List.length M31) :: d) M42) ∨
 ∃ (M44 : Mem),
 Lp Try.prog (Env.fn 73) [1, 1, 0, 1, 0, 0, 1, 1, 0, 0, 1, 1, 0, 1, 0] (St.mk t32 d M31 rc) .ret
 (St.mk t32 (ADef.mark (List.length M31) :: d) M44 rc) ∧
 R1 (ADef.mark (List.length M31) :: d) M44))
 (R0 d M) )
 {n : Nat} {t17 : Int} {d : List ADef} {rc : Bool} {M : Mem} (h0 : Inv n t17 d M) {t0 : List Value} (hT : TIn 48 [(2, .pointer (some (.mk ut2 ut2o none))), (3, .pointer (some (.mk ut3 ut3o none))), (4, .pointer (some (.mk ut4 ut4o none))), (15, .slice ut15 ut15n ut15c), (16, .int .i64 ut16), (17, .int .i64 t17)] t0) :
 (∃ (d' : List ADef) (rc' : Bool) (M' : Mem), LpX Try.prog (Env.fn 73) [1, 1, 0, 1, 0] t0 d M rc (.exit 0) [] d' rc' M' ∧ R0 d' M') ∨ (∃ (d' : List ADef) (rc' : Bool) (M' : Mem), LpX Try.prog (Env.fn 73) [1, 1, 0, 1, 0] t0 d M rc .ret [] d' rc' M' ∧ R1 d' M') := by
 rcases loopX (P := Try.prog) (E := (Env.fn 73)) (sym := true) (ann := ann73) (p := [1, 1, 0, 1, 0]) (stepC (codeOf Try.prog 73 [1, 1, 0, 1, 0]) 0) (by kernel_rfl) [(2, .pointer (some (.mk ut2 ut2o none))), (3, .pointer (some (.mk ut3 ut3o none))), (4, .pointer (some (.mk ut4 ut4o none))), (15, .slice ut15 ut15n ut15c), (16, .int .i64 ut16)] [17] (by kernel_rfl) (fun n xs d M => match xs with | [.int .i64 t17] => Inv n t17 d M | _ => False) [((.exit 0), [], fun xs d M => match xs with | [] => R0 d M | _ => False), (.ret, [], fun xs d M => match xs with | [] => R1 d M | _ => False)] (fun n xs d rc M h uu => by split at h <;> first | exact h.elim | exact (held_of (by kernel_rfl) (step n _ d rc M h)).ok) (xs := [.int .i64 t17]) hT rfl h0 with ⟨_, _, ⟨_, _, h, g⟩ | ⟨_, _, h, g⟩⟩
 · (dsimp only at g; split at g) <;> first | exact (.inl ⟨_, _, _, h, g⟩) | exact g.elim
 · (dsimp only at g; split at g) <;> first | exact (.inr ⟨_, _, _, h, g⟩) | exact g.elim

theorem round73_1 {ut2 ut2o ut3 ut3o ut4 ut4o ut5 ut5o ut7 ut7o : Nat} {uf24 : Value} {t0 : List Value} (hT : TIn 48 [(2, .pointer (some (.mk ut2 ut2o none))), (3, .pointer (some (.mk ut3 ut3o none))), (4, .pointer (some (.mk ut4 ut4o none))), (5, .pointer (some (.mk ut5 ut5o none))), (7, .pointer (some (.mk ut7 ut7o none))), (24, uf24)] t0) {L df : Nat} {i x : Int} {M : Mem} {K : Bool → Mem → Prop} (hM : M[L]? = some (rfO Try.prog .ready none 73 [1, 1, 0, 1, 0, 0, 1, 1, 0, 0, 1, 1, 0, 1, 0] t0 (Array.mk [25, 26]) df)) (hK : ∀ b M2, K b M2 → M2[L]? = some (rfO Try.prog .busy none 73 [1, 1, 0, 1, 0, 0, 1, 1, 0, 0, 1, 1, 0, 1, 0] t0 (Array.mk [25, 26]) df))
 (h : ∀ Mb : Mem, Mb = M.set L (rfO Try.prog .busy none 73 [1, 1, 0, 1, 0, 0, 1, 1, 0, 0, 1, 1, 0, 1, 0] t0 (Array.mk [25, 26]) df) →
 M = M ∧
 cnd (!leF (Int.ofNat 0) x) (∃ (M0 : Mem), wrCells Mb ut2 ut2o [.slice none 0 0] = some M0 ∧ ∃ (M1 : Mem), wrCells M0 ut3 ut3o [.bool false] = some M1 ∧ K false M1)
 (∃ (i2 : Int),
 rdVar Try.prog Mb 3 ut5 ut5o = some (.int .i64 i2) ∧
 ∃ (i3 : Int),
 rdVar Try.prog Mb 3 ut7 ut7o = some (.int .i64 i3) ∧
 cnd (!eqF x (wrapF .i64 (Int.sub i2 i3)))
 (∃ (M4 : Mem), wrCells Mb ut2 ut2o [.slice none 0 0] = some M4 ∧ ∃ (M5 : Mem), wrCells M4 ut3 ut3o [.bool false] = some M5 ∧ K false M5)
 (∃ (i6 : Int),
 rdVar Try.prog Mb 3 ut7 ut7o = some (.int .i64 i6) ∧
 ∃ (a7 : Option Addr),
 ∃ (n8 : Nat),
 ∃ (n9 : Nat),
 rdVar Try.prog Mb 22 ut4 ut4o = some (.slice a7 n8 n9) ∧
 ∃ (n10 : Nat),
 ∃ (n11 : Nat),
 idxA Try.prog 22 (.slice a7 n8 n9) (.int .i64 x) = some (.pointer (some (.mk n10 n11 none))) ∧
 ∃ (i12 : Int),
 rdVar Try.prog Mb 3 n10 n11 = some (.int .i64 i12) ∧
 ∃ (M13 : Mem), wrCells Mb ut7 ut7o [.int .i64 (wrapF .i64 (Int.add i6 i12))] = some M13 ∧ True ∧ K true M13)) ) :
 ∃ b M2, K b M2 ∧ Rd Try.prog L [.int .i64 i, .int .i64 x] M b (M2.set L (rfO Try.prog (rfEnd b) (rfJ b) 73 [1, 1, 0, 1, 0, 0, 1, 1, 0, 0, 1, 1, 0, 1, 0] t0 (Array.mk [25, 26]) df)) := round_rdT (P := Try.prog) (sym := true) (ann := ann73) hT hM rfl hK (fun uu Mb hB => (held_of (by kernel_rfl) (h Mb hB)).ok)

theorem w74 {p00 : Option Addr} {p00n p00c : Nat} {p01 : Option Addr} {p01n p01c : Nat} {p1 : Option Addr} {p1n p1c : Nat} {M : Mem} {K : Value → Mem → Prop} (h : ∃ (a0 : Option Addr),
 ∃ (n1 : Nat),
 ∃ (n2 : Nat),
 rdVar Try.prog
 (M ++ [AObj.cells [.slice p00 p00n p00c, .slice p01 p01n p01c] 2 Mode.live] ++ [AObj.cells [.slice p1 p1n p1c] 1 Mode.live] ++
 [AObj.cells [.bool false] 1 Mode.live])
 30 (List.length M) 0 =
 some (Value.slice a0 n1 n2) ∧
 ∃ (M3 : Mem),
 wrCells
 (M ++ [AObj.cells [.slice p00 p00n p00c, .slice p01 p01n p01c] 2 Mode.live] ++ [AObj.cells [.slice p1 p1n p1c] 1 Mode.live] ++
 [AObj.cells [.bool false] 1 Mode.live] ++
 [AObj.cells [.int .i64 (Int.ofNat 0)] 1 Mode.live])
 (List.length
 (M ++ [AObj.cells [.slice p00 p00n p00c, .slice p01 p01n p01c] 2 Mode.live] ++ [AObj.cells [.slice p1 p1n p1c] 1 Mode.live] ++
 [AObj.cells [.bool false] 1 Mode.live]))
 0 [.int .i64 (Int.ofNat n1)] =
 some M3 ∧
 ∃ (a4 : Option Addr),
 ∃ (n5 : Nat),
 ∃ (n6 : Nat),
 rdVar Try.prog M3 22 (List.length M) 1 = some (.slice a4 n5 n6) ∧
 ((∃ (x7 : FuncId),
 ∃ (t8 : List Value),
 ∃ (M9 : Mem),
 Ret Try.prog 96 [.slice a4 n5 n6] M3 (.func (Fn.func x7) (Array.mk []) (Array.mk t8)) M9 ∧
 ∀ (t10 : List Value),
 TIn 41
 [(2, .pointer (some (.mk (List.length M) 0 none))),
 (3, .pointer (some (.mk (List.length (M ++ [AObj.cells [.slice p00 p00n p00c, .slice p01 p01n p01c] 2 Mode.live])) 0 none))),
 (4,
 .pointer
 (some
 (.mk
 (List.length
 (M ++ [AObj.cells [.slice p00 p00n p00c, .slice p01 p01n p01c] 2 Mode.live] ++ [AObj.cells [.slice p1 p1n p1c] 1 Mode.live]))
 0 none))),
 (5,
 .pointer
 (some
 (.mk
 (List.length
 (M ++ [AObj.cells [.slice p00 p00n p00c, .slice p01 p01n p01c] 2 Mode.live] ++ [AObj.cells [.slice p1 p1n p1c] 1 Mode.live] ++
 [AObj.cells [.bool false] 1 Mode.live]))
 0 none))),
 (13, .func (Fn.func x7) (Array.mk []) (Array.mk t8))]
 t10 →
 (∃ (M11 : Mem),
 Lp Try.prog (Env.fn 74) [1, 1, 0, 1, 0] (St.mk t10 [] M9 false) .normal (St.mk t10 [ADef.mark (List.length M9)] M11 false) ∧
 ∃ (i12 : Int),
 rdVar Try.prog M11 3
 (List.length
 (M ++ [AObj.cells [.slice p00 p00n p00c, .slice p01 p01n p01c] 2 Mode.live] ++
 [AObj.cells [.slice p1 p1n p1c] 1 Mode.live] ++
 [AObj.cells [.bool false] 1 Mode.live]))
 0 =
 some (Value.int .i64 i12) ∧
 ∃ (M13 : Mem),
 wrCells M11
 (List.length
 (M ++ [AObj.cells [.slice p00 p00n p00c, .slice p01 p01n p01c] 2 Mode.live] ++
 [AObj.cells [.slice p1 p1n p1c] 1 Mode.live]))
 0 [.bool (eqF i12 (Int.ofNat 0))] =
 some M13 ∧
 M13[List.length M9]? = some (AObj.defers false) ∧
 ∃ (b16 : Bool),
 rdVar Try.prog (List.set M13 (List.length M9) (AObj.defers true)) 4
 (List.length
 (M ++ [AObj.cells [.slice p00 p00n p00c, .slice p01 p01n p01c] 2 Mode.live] ++
 [AObj.cells [.slice p1 p1n p1c] 1 Mode.live]))
 0 =
 some (Value.bool b16) ∧
 K (.bool b16) (List.set M13 (List.length M9) (AObj.defers true))) ∨
 ∃ (M17 : Mem),
 Lp Try.prog (Env.fn 74) [1, 1, 0, 1, 0] (St.mk t10 [] M9 false) .ret (St.mk t10 [ADef.mark (List.length M9)] M17 false) ∧
 M17[List.length M9]? = some (AObj.defers false) ∧
 ∃ (b20 : Bool),
 rdVar Try.prog (List.set M17 (List.length M9) (AObj.defers true)) 4
 (List.length
 (M ++ [AObj.cells [.slice p00 p00n p00c, .slice p01 p01n p01c] 2 Mode.live] ++
 [AObj.cells [.slice p1 p1n p1c] 1 Mode.live]))
 0 =
 some (Value.bool b20) ∧
 K (.bool b20) (List.set M17 (List.length M9) (AObj.defers true))) ∨
 ∃ (M21 : Mem),
 Ret Try.prog 96 [.slice a4 n5 n6] M3 .nilFunc M21 ∧
 ∀ (t22 : List Value),
 TIn 41
 [(2, .pointer (some (.mk (List.length M) 0 none))),
 (3, .pointer (some (.mk (List.length (M ++ [AObj.cells [.slice p00 p00n p00c, .slice p01 p01n p01c] 2 Mode.live])) 0 none))),
 (4,
 .pointer
 (some
 (.mk
 (List.length
 (M ++ [AObj.cells [.slice p00 p00n p00c, .slice p01 p01n p01c] 2 Mode.live] ++ [AObj.cells [.slice p1 p1n p1c] 1 Mode.live]))
 0 none))),
 (5,
 .pointer
 (some
 (.mk
 (List.length
 (M ++ [AObj.cells [.slice p00 p00n p00c, .slice p01 p01n p01c] 2 Mode.live] ++ [AObj.cells [.slice p1 p1n p1c] 1 Mode.live] ++
 [AObj.cells [.bool false] 1 Mode.live]))
 0 none))),
 (13, .nilFunc)]
 t22 →
 (∃ (M23 : Mem),
 Lp Try.prog (Env.fn 74) [1, 1, 0, 1, 0] (St.mk t22 [] M21 false) .normal (St.mk t22 [ADef.mark (List.length M21)] M23 false) ∧
 ∃ (i24 : Int),
 rdVar Try.prog M23 3
 (List.length
 (M ++ [AObj.cells [.slice p00 p00n p00c, .slice p01 p01n p01c] 2 Mode.live] ++ [AObj.cells [.slice p1 p1n p1c] 1 Mode.live] ++
 [AObj.cells [.bool false] 1 Mode.live]))
 0 =
 some (Value.int .i64 i24) ∧
 ∃ (M25 : Mem),
 wrCells M23
 (List.length
 (M ++ [AObj.cells [.slice p00 p00n p00c, .slice p01 p01n p01c] 2 Mode.live] ++ [AObj.cells [.slice p1 p1n p1c] 1 Mode.live]))
 0 [.bool (eqF i24 (Int.ofNat 0))] =
 some M25 ∧
 M25[List.length M21]? = some (AObj.defers false) ∧
 ∃ (b28 : Bool),
 rdVar Try.prog (List.set M25 (List.length M21) (AObj.defers true)) 4
 (List.length
 (M ++ [AObj.cells [.slice p00 p00n p00c, .slice p01 p01n p01c] 2 Mode.live] ++
 [AObj.cells [.slice p1 p1n p1c] 1 Mode.live]))
 0 =
 some (Value.bool b28) ∧
 K (.bool b28) (List.set M25 (List.length M21) (AObj.defers true))) ∨
 ∃ (M29 : Mem),
 Lp Try.prog (Env.fn 74) [1, 1, 0, 1, 0] (St.mk t22 [] M21 false) .ret (St.mk t22 [ADef.mark (List.length M21)] M29 false) ∧
 M29[List.length M21]? = some (AObj.defers false) ∧
 ∃ (b32 : Bool),
 rdVar Try.prog (List.set M29 (List.length M21) (AObj.defers true)) 4
 (List.length
 (M ++ [AObj.cells [.slice p00 p00n p00c, .slice p01 p01n p01c] 2 Mode.live] ++ [AObj.cells [.slice p1 p1n p1c] 1 Mode.live]))
 0 =
 some (Value.bool b32) ∧
 K (.bool b32) (List.set M29 (List.length M21) (AObj.defers true)))) :
 Held (wpRet Try.prog 74 true ann74 [.agg (Array.mk [.slice p00 p00n p00c, .slice p01 p01n p01c]), .slice p1 p1n p1c] M K) := held_of (by kernel_rfl) h
theorem round74_0 {ut2 ut2o ut3 ut3o ut4 ut4o ut5 ut5o : Nat} {uf13 : Value} {t0 : List Value} (hT : TIn 41 [(2, .pointer (some (.mk ut2 ut2o none))), (3, .pointer (some (.mk ut3 ut3o none))), (4, .pointer (some (.mk ut4 ut4o none))), (5, .pointer (some (.mk ut5 ut5o none))), (13, uf13)] t0) {L df : Nat} {i x : Int} {M : Mem} {K : Bool → Mem → Prop} (hM : M[L]? = some (rfO Try.prog .ready none 74 [1, 1, 0, 1, 0] t0 (Array.mk [14, 15]) df)) (hK : ∀ b M2, K b M2 → M2[L]? = some (rfO Try.prog .busy none 74 [1, 1, 0, 1, 0] t0 (Array.mk [14, 15]) df))
 (h : ∀ Mb : Mem, Mb = M.set L (rfO Try.prog .busy none 74 [1, 1, 0, 1, 0] t0 (Array.mk [14, 15]) df) →
 M = M ∧
 cnd (!leF (Int.ofNat 0) x) (∃ (M0 : Mem), wrCells Mb ut4 ut4o [.bool false] = some M0 ∧ K false M0)
 (∃ (i1 : Int),
 rdVar Try.prog Mb 3 ut5 ut5o = some (.int .i64 i1) ∧
 cnd (!eqF x (wrapF .i64 (Int.sub i1 (Int.ofNat 1)))) (∃ (M2 : Mem), wrCells Mb ut4 ut4o [.bool false] = some M2 ∧ K false M2)
 (∃ (a3 : Option Addr),
 ∃ (n4 : Nat),
 ∃ (n5 : Nat),
 rdVar Try.prog Mb 30 ut2 ut2o = some (.slice a3 n4 n5) ∧
 ∃ (n6 : Nat),
 ∃ (n7 : Nat),
 idxA Try.prog 30 (.slice a3 n4 n5) (.int .i64 x) = some (.pointer (some (.mk n6 n7 none))) ∧
 ∃ (i8 : Int),
 rdVar Try.prog Mb 3 n6 n7 = some (.int .i64 i8) ∧
 cnd (!eqF i8 (Int.ofNat 13)) (∃ (M9 : Mem), wrCells Mb ut4 ut4o [.bool false] = some M9 ∧ K false M9)
 (∃ (i10 : Int),
 rdVar Try.prog Mb 3 ut5 ut5o = some (.int .i64 i10) ∧
 ∃ (a11 : Option Addr),
 ∃ (n12 : Nat),
 ∃ (n13 : Nat),
 rdVar Try.prog Mb 22 ut3 ut3o = some (.slice a11 n12 n13) ∧
 ∃ (n14 : Nat),
 ∃ (n15 : Nat),
 idxA Try.prog 22 (.slice a11 n12 n13) (.int .i64 x) = some (.pointer (some (.mk n14 n15 none))) ∧
 ∃ (i16 : Int),
 rdVar Try.prog Mb 3 n14 n15 = some (.int .i64 i16) ∧
 ∃ (M17 : Mem), wrCells Mb ut5 ut5o [.int .i64 (wrapF .i64 (Int.sub i10 i16))] = some M17 ∧ True ∧ K true M17))) ) :
 ∃ b M2, K b M2 ∧ Rd Try.prog L [.int .i64 i, .int .i64 x] M b (M2.set L (rfO Try.prog (rfEnd b) (rfJ b) 74 [1, 1, 0, 1, 0] t0 (Array.mk [14, 15]) df)) := round_rdT (P := Try.prog) (sym := true) (ann := ann74) hT hM rfl hK (fun uu Mb hB => (held_of (by kernel_rfl) (h Mb hB)).ok)

theorem w75 {p00 : Option Addr} {p00n p00c : Nat} {p01 : Option Addr} {p01n p01c : Nat} {p10 : Int} {p11 p12 : ByteArray} {p13 : Option Addr} {p13n p13c : Nat} {p14 : Int} {p20 : ByteArray} {p21 : Value} {p22 : Bool} {p23 : Value} {M : Mem} {K : Value → Mem → Prop} (h : ∃ (s0 : ByteArray),
 (∃ (x1 : FuncId),
 ∃ (t2 : List Value),
 ∃ (b3 : Bool),
 (∃ (x4 : FuncId),
 ∃ (t5 : List Value),
 rdVar Try.prog
 (M ++ [AObj.cells [.slice p00 p00n p00c, .slice p01 p01n p01c] 2 Mode.live] ++
 [AObj.cells [.int .i64 p10, .string p11, .string p12, .slice p13 p13n p13c, .int .i64 p14] 5 Mode.live] ++
 [AObj.cells [.string p20, p21, .bool p22, p23] 4 Mode.live])
 60
 (List.length
 (M ++ [AObj.cells [.slice p00 p00n p00c, .slice p01 p01n p01c] 2 Mode.live] ++
 [AObj.cells [.int .i64 p10, .string p11, .string p12, .slice p13 p13n p13c, .int .i64 p14] 5 Mode.live]))
 0 =
 some (Value.agg (Array.mk [.string s0, .func (Fn.func x1) (Array.mk []) (Array.mk t2), .bool b3, .func (Fn.func x4) (Array.mk []) (Array.mk t5)])) ∧
 ∃ (i6 : Int),
 ∃ (s7 : ByteArray),
 ∃ (s8 : ByteArray),
 ∃ (a9 : Option Addr),
 ∃ (n10 : Nat),
 ∃ (n11 : Nat),
 ∃ (i12 : Int),
 rdVar Try.prog
 (M ++ [AObj.cells [.slice p00 p00n p00c, .slice p01 p01n p01c] 2 Mode.live] ++
 [AObj.cells [.int .i64 p10, .string p11, .string p12, .slice p13 p13n p13c, .int .i64 p14] 5 Mode.live] ++
 [AObj.cells [.string p20, p21, .bool p22, p23] 4 Mode.live])
 24 (List.length (M ++ [AObj.cells [.slice p00 p00n p00c, .slice p01 p01n p01c] 2 Mode.live])) 0 =
 some (Value.agg (Array.mk [.int .i64 i6, .string s7, .string s8, .slice a9 n10 n11, .int .i64 i12])) ∧
 ∃ (a13 : Option Addr),
 ∃ (n14 : Nat),
 ∃ (n15 : Nat),
 ∃ (b16 : Bool),
 ∃ (M17 : Mem),
 Ret Try.prog 34
 [.agg
 (Array.mk
 [.string s0, .func (Fn.func x1) (Array.mk []) (Array.mk t2), .bool b3,
 .func (Fn.func x4) (Array.mk []) (Array.mk t5)]),
 .agg (Array.mk [.int .i64 i6, .string s7, .string s8, .slice a9 n10 n11, .int .i64 i12])]
 (M ++ [AObj.cells [.slice p00 p00n p00c, .slice p01 p01n p01c] 2 Mode.live] ++
 [AObj.cells [.int .i64 p10, .string p11, .string p12, .slice p13 p13n p13c, .int .i64 p14] 5
 Mode.live] ++
 [AObj.cells [.string p20, p21, .bool p22, p23] 4 Mode.live])
 (.tuple (Array.mk [.slice a13 n14 n15, .bool b16])) M17 ∧
 ∃ (a18 : Option Addr),
 ∃ (n19 : Nat),
 ∃ (n20 : Nat),
 rdVar Try.prog M17 22 (List.length (M ++ [AObj.cells [.slice p00 p00n p00c, .slice p01 p01n p01c] 2 Mode.live])) 3 =
 some (Value.slice a18 n19 n20) ∧
 ∀ (t21 : List Value),
 TIn 76
 [(3, .pointer (some (.mk (List.length M) 0 none))),
 (4,
 .pointer
 (some
 (.mk (List.length (M ++ [AObj.cells [.slice p00 p00n p00c, .slice p01 p01n p01c] 2 Mode.live])) 0 none))),
 (7, .slice a13 n14 n15), (21, .slice a18 n19 n20), (22, .int .i64 (Int.ofNat n19)), (8, .bool b16),
 (23, .int .i64 (Int.ofNat 0))]
 t21 →
 ∃ (b22 : Bool),
 ∃ (M23 : Mem),
 LpT Try.prog (Env.fn 75) [1, 1, 0, 1, 0] t21 [] M17 false (.exit 0) [(8, .bool b22)] M23 ∧
 ∀ (w24 : Nat → Value), K (.bool b22) M23) ∨
 rdVar Try.prog
 (M ++ [AObj.cells [.slice p00 p00n p00c, .slice p01 p01n p01c] 2 Mode.live] ++
 [AObj.cells [.int .i64 p10, .string p11, .string p12, .slice p13 p13n p13c, .int .i64 p14] 5 Mode.live] ++
 [AObj.cells [.string p20, p21, .bool p22, p23] 4 Mode.live])
 60
 (List.length
 (M ++ [AObj.cells [.slice p00 p00n p00c, .slice p01 p01n p01c] 2 Mode.live] ++
 [AObj.cells [.int .i64 p10, .string p11, .string p12, .slice p13 p13n p13c, .int .i64 p14] 5 Mode.live]))
 0 =
 some (Value.agg (Array.mk [.string s0, .func (Fn.func x1) (Array.mk []) (Array.mk t2), .bool b3, .nilFunc])) ∧
 ∃ (i25 : Int),
 ∃ (s26 : ByteArray),
 ∃ (s27 : ByteArray),
 ∃ (a28 : Option Addr),
 ∃ (n29 : Nat),
 ∃ (n30 : Nat),
 ∃ (i31 : Int),
 rdVar Try.prog
 (M ++ [AObj.cells [.slice p00 p00n p00c, .slice p01 p01n p01c] 2 Mode.live] ++
 [AObj.cells [.int .i64 p10, .string p11, .string p12, .slice p13 p13n p13c, .int .i64 p14] 5 Mode.live] ++
 [AObj.cells [.string p20, p21, .bool p22, p23] 4 Mode.live])
 24 (List.length (M ++ [AObj.cells [.slice p00 p00n p00c, .slice p01 p01n p01c] 2 Mode.live])) 0 =
 some (Value.agg (Array.mk [.int .i64 i25, .string s26, .string s27, .slice a28 n29 n30, .int .i64 i31])) ∧
 ∃ (a32 : Option Addr),
 ∃ (n33 : Nat),
 ∃ (n34 : Nat),
 ∃ (b35 : Bool),
 ∃ (M36 : Mem),
 Ret Try.prog 34
 [.agg (Array.mk [.string s0, .func (Fn.func x1) (Array.mk []) (Array.mk t2), .bool b3, .nilFunc]),
 .agg (Array.mk [.int .i64 i25, .string s26, .string s27, .slice a28 n29 n30, .int .i64 i31])]
 (M ++ [AObj.cells [.slice p00 p00n p00c, .slice p01 p01n p01c] 2 Mode.live] ++
 [AObj.cells [.int .i64 p10, .string p11, .string p12, .slice p13 p13n p13c, .int .i64 p14] 5
 Mode.live] ++
 [AObj.cells [.string p20, p21, .bool p22, p23] 4 Mode.live])
 (.tuple (Array.mk [.slice a32 n33 n34, .bool b35])) M36 ∧
 ∃ (a37 : Option Addr),
 ∃ (n38 : Nat),
 ∃ (n39 : Nat),
 rdVar Try.prog M36 22 (List.length (M ++ [AObj.cells [.slice p00 p00n p00c, .slice p01 p01n p01c] 2 Mode.live])) 3 =
 some (Value.slice a37 n38 n39) ∧
 ∀ (t40 : List Value),
 TIn 76
 [(3, .pointer (some (.mk (List.length M) 0 none))),
 (4,
 .pointer
 (some (.mk (List.length (M ++ [AObj.cells [.slice p00 p00n p00c, .slice p01 p01n p01c] 2 Mode.live])) 0 none))),
 (7, .slice a32 n33 n34), (21, .slice a37 n38 n39), (22, .int .i64 (Int.ofNat n38)), (8, .bool b35),
 (23, .int .i64 (Int.ofNat 0))]
 t40 →
 ∃ (b41 : Bool),
 ∃ (M42 : Mem),
 LpT Try.prog (Env.fn 75) [1, 1, 0, 1, 0] t40 [] M36 false (.exit 0) [(8, .bool b41)] M42 ∧
 ∀ (w43 : Nat → Value), K (.bool b41) M42) ∨
 ∃ (b44 : Bool),
 (∃ (x45 : FuncId),
 ∃ (t46 : List Value),
 rdVar Try.prog
 (M ++ [AObj.cells [.slice p00 p00n p00c, .slice p01 p01n p01c] 2 Mode.live] ++
 [AObj.cells [.int .i64 p10, .string p11, .string p12, .slice p13 p13n p13c, .int .i64 p14] 5 Mode.live] ++
 [AObj.cells [.string p20, p21, .bool p22, p23] 4 Mode.live])
 60
 (List.length
 (M ++ [AObj.cells [.slice p00 p00n p00c, .slice p01 p01n p01c] 2 Mode.live] ++
 [AObj.cells [.int .i64 p10, .string p11, .string p12, .slice p13 p13n p13c, .int .i64 p14] 5 Mode.live]))
 0 =
 some (Value.agg (Array.mk [.string s0, .nilFunc, .bool b44, .func (Fn.func x45) (Array.mk []) (Array.mk t46)])) ∧
 ∃ (i47 : Int),
 ∃ (s48 : ByteArray),
 ∃ (s49 : ByteArray),
 ∃ (a50 : Option Addr),
 ∃ (n51 : Nat),
 ∃ (n52 : Nat),
 ∃ (i53 : Int),
 rdVar Try.prog
 (M ++ [AObj.cells [.slice p00 p00n p00c, .slice p01 p01n p01c] 2 Mode.live] ++
 [AObj.cells [.int .i64 p10, .string p11, .string p12, .slice p13 p13n p13c, .int .i64 p14] 5 Mode.live] ++
 [AObj.cells [.string p20, p21, .bool p22, p23] 4 Mode.live])
 24 (List.length (M ++ [AObj.cells [.slice p00 p00n p00c, .slice p01 p01n p01c] 2 Mode.live])) 0 =
 some (Value.agg (Array.mk [.int .i64 i47, .string s48, .string s49, .slice a50 n51 n52, .int .i64 i53])) ∧
 ∃ (a54 : Option Addr),
 ∃ (n55 : Nat),
 ∃ (n56 : Nat),
 ∃ (b57 : Bool),
 ∃ (M58 : Mem),
 Ret Try.prog 34
 [.agg (Array.mk [.string s0, .nilFunc, .bool b44, .func (Fn.func x45) (Array.mk []) (Array.mk t46)]),
 .agg (Array.mk [.int .i64 i47, .string s48, .string s49, .slice a50 n51 n52, .int .i64 i53])]
 (M ++ [AObj.cells [.slice p00 p00n p00c, .slice p01 p01n p01c] 2 Mode.live] ++
 [AObj.cells [.int .i64 p10, .string p11, .string p12, .slice p13 p13n p13c, .int .i64 p14] 5
 Mode.live] ++
 [AObj.cells [.string p20, p21, .bool p22, p23] 4 Mode.live])
 (.tuple (Array.mk [.slice a54 n55 n56, .bool b57])) M58 ∧
 ∃ (a59 : Option Addr),
 ∃ (n60 : Nat),
 ∃ (n61 : Nat),
 rdVar Try.prog M58 22 (List.length (M ++ [AObj.cells [.slice p00 p00n p00c, .slice p01 p01n p01c] 2 Mode.live])) 3 =
 some (Value.slice a59 n60 n61) ∧
 ∀ (t62 : List Value),
 TIn 76
 [(3, .pointer (some (.mk (List.length M) 0 none))),
 (4,
 .pointer
 (some (.mk (List.length (M ++ [AObj.cells [.slice p00 p00n p00c, .slice p01 p01n p01c] 2 Mode.live])) 0 none))),
 (7, .slice a54 n55 n56), (21, .slice a59 n60 n61), (22, .int .i64 (Int.ofNat n60)), (8, .bool b57),
 (23, .int .i64 (Int.ofNat 0))]
 t62 →
 ∃ (b63 : Bool),
 ∃ (M64 : Mem),
 LpT Try.prog (Env.fn 75) [1, 1, 0, 1, 0] t62 [] M58 false (.exit 0) [(8, .bool b63)] M64 ∧
 ∀ (w65 : Nat → Value), K (.bool b63) M64) ∨
 rdVar Try.prog
 (M ++ [AObj.cells [.slice p00 p00n p00c, .slice p01 p01n p01c] 2 Mode.live] ++
 [AObj.cells [.int .i64 p10, .string p11, .string p12, .slice p13 p13n p13c, .int .i64 p14] 5 Mode.live] ++
 [AObj.cells [.string p20, p21, .bool p22, p23] 4 Mode.live])
 60
 (List.length
 (M ++ [AObj.cells [.slice p00 p00n p00c, .slice p01 p01n p01c] 2 Mode.live] ++
 [AObj.cells [.int .i64 p10, .string p11, .string p12, .slice p13 p13n p13c, .int .i64 p14] 5 Mode.live]))
 0 =
 some (Value.agg (Array.mk [.string s0, .nilFunc, .bool b44, .nilFunc])) ∧
 ∃ (i66 : Int),
 ∃ (s67 : ByteArray),
 ∃ (s68 : ByteArray),
 ∃ (a69 : Option Addr),
 ∃ (n70 : Nat),
 ∃ (n71 : Nat),
 ∃ (i72 : Int),
 rdVar Try.prog
 (M ++ [AObj.cells [.slice p00 p00n p00c, .slice p01 p01n p01c] 2 Mode.live] ++
 [AObj.cells [.int .i64 p10, .string p11, .string p12, .slice p13 p13n p13c, .int .i64 p14] 5 Mode.live] ++
 [AObj.cells [.string p20, p21, .bool p22, p23] 4 Mode.live])
 24 (List.length (M ++ [AObj.cells [.slice p00 p00n p00c, .slice p01 p01n p01c] 2 Mode.live])) 0 =
 some (Value.agg (Array.mk [.int .i64 i66, .string s67, .string s68, .slice a69 n70 n71, .int .i64 i72])) ∧
 ∃ (a73 : Option Addr),
 ∃ (n74 : Nat),
 ∃ (n75 : Nat),
 ∃ (b76 : Bool),
 ∃ (M77 : Mem),
 Ret Try.prog 34
 [.agg (Array.mk [.string s0, .nilFunc, .bool b44, .nilFunc]),
 .agg (Array.mk [.int .i64 i66, .string s67, .string s68, .slice a69 n70 n71, .int .i64 i72])]
 (M ++ [AObj.cells [.slice p00 p00n p00c, .slice p01 p01n p01c] 2 Mode.live] ++
 [AObj.cells [.int .i64 p10, .string p11, .string p12, .slice p13 p13n p13c, .int .i64 p14] 5 Mode.live] ++
 [AObj.cells [.string p20, p21, .bool p22, p23] 4 Mode.live])
 (.tuple (Array.mk [.slice a73 n74 n75, .bool b76])) M77 ∧
 ∃ (a78 : Option Addr),
 ∃ (n79 : Nat),
 ∃ (n80 : Nat),
 rdVar Try.prog M77 22 (List.length (M ++ [AObj.cells [.slice p00 p00n p00c, .slice p01 p01n p01c] 2 Mode.live])) 3 =
 some (Value.slice a78 n79 n80) ∧
 ∀ (t81 : List Value),
 TIn 76
 [(3, .pointer (some (.mk (List.length M) 0 none))),
 (4,
 .pointer
 (some (.mk (List.length (M ++ [AObj.cells [.slice p00 p00n p00c, .slice p01 p01n p01c] 2 Mode.live])) 0 none))),
 (7, .slice a73 n74 n75), (21, .slice a78 n79 n80), (22, .int .i64 (Int.ofNat n79)), (8, .bool b76),
 (23, .int .i64 (Int.ofNat 0))]
 t81 →
 ∃ (b82 : Bool),
 ∃ (M83 : Mem),
 LpT Try.prog (Env.fn 75) [1, 1, 0, 1, 0] t81 [] M77 false (.exit 0) [(8, .bool b82)] M83 ∧
 ∀ (w84 : Nat → Value), K (.bool b82) M83) :
 Held (wpRet Try.prog 75 true ann75
 [.agg (Array.mk [.slice p00 p00n p00c, .slice p01 p01n p01c]),
 .agg (Array.mk [.int .i64 p10, .string p11, .string p12, .slice p13 p13n p13c, .int .i64 p14]),
 .agg (Array.mk [.string p20, p21, .bool p22, p23])]
 M K) := held_of (by kernel_rfl) h
theorem loop75_0 {ut3 ut3o ut4 ut4o : Nat} {ut7 : Option Addr} {ut7n ut7c : Nat} {ut21 : Option Addr} {ut21n ut21c : Nat} {ut22 : Int} {d : List ADef} {rc : Bool} (Inv : Nat → Bool → Int → Mem → Prop) (R0 : Bool → Mem → Prop)
 (step : ∀ (n : Nat) (t8 : Bool) (t23 : Int) (M : Mem), Inv n t8 t23 M →
 cnd (!leF ut22 t23)
 (∃ (n0 : Nat),
 ∃ (n1 : Nat),
 idxA Try.prog 22 (.slice ut21 ut21n ut21c) (.int .i64 t23) = some (.pointer (some (.mk n0 n1 none))) ∧
 ∃ (i2 : Int),
 rdVar Try.prog M 3 n0 n1 = some (.int .i64 i2) ∧
 ∃ (a3 : Option Addr),
 ∃ (n4 : Nat),
 ∃ (n5 : Nat),
 rdVar Try.prog M 30 ut3 ut3o = some (.slice a3 n4 n5) ∧
 ∃ (n6 : Nat),
 ∃ (n7 : Nat),
 idxA Try.prog 30 (.slice a3 n4 n5) (.int .i64 i2) = some (.pointer (some (.mk n6 n7 none))) ∧
 ∃ (i8 : Int),
 rdVar Try.prog M 3 n6 n7 = some (.int .i64 i8) ∧
 ∃ (i9 : Int),
 rdVar Try.prog M 3 ut4 ut4o = some (.int .i64 i9) ∧
 cnd (eqF i9 (Int.ofNat 10))
 (∃ (i10 : Int),
 binA Try.prog BinOp.rem 3 (Operand.tmp 38) (Operand.const (.int .i64 (Int.ofNat 2))) (.int .i64 t23)
 (.int .i64 (Int.ofNat 2)) =
 some (Value.int .i64 i10) ∧
 ∃ (i11 : Int),
 rdVar Try.prog M 3 ut4 ut4o = some (.int .i64 i11) ∧
 cnd (eqF i11 (Int.ofNat 30))
 (cnd t8
 (∃ (n12 : Nat),
 ∃ (n13 : Nat),
 idxA Try.prog 22 (.slice ut7 ut7n ut7c) (.int .i64 t23) = some (.pointer (some (.mk n12 n13 none))) ∧
 ∃ (i14 : Int),
 rdVar Try.prog M 3 n12 n13 = some (.int .i64 i14) ∧
 ∃ (b15 : Bool),
 ∃ (M16 : Mem),
 Ret Try.prog 18 [.int .i64 i8, .int .i64 i14] M (.bool b15) M16 ∧
 cnd b15
 (cnd (!eqF i10 (Int.ofNat 0))
 (cnd (!eqF t23 (Int.ofNat 1)) (∃ (n17 : Nat), n17 < n ∧ Inv n17 true (wrapF .i64 (Int.add t23 (Int.ofNat 1))) M16)
 (∃ (n18 : Nat), n18 < n ∧ Inv n18 (eqF i8 (Int.ofNat 16)) (wrapF .i64 (Int.add t23 (Int.ofNat 1))) M16))
 (cnd (eqF i8 (Int.ofNat 1))
 (cnd (!eqF t23 (Int.ofNat 1))
 (∃ (n19 : Nat), n19 < n ∧ Inv n19 true (wrapF .i64 (Int.add t23 (Int.ofNat 1))) M16)
 (∃ (n20 : Nat), n20 < n ∧ Inv n20 (eqF i8 (Int.ofNat 16)) (wrapF .i64 (Int.add t23 (Int.ofNat 1))) M16))
 (∃ (n21 : Nat), n21 < n ∧ Inv n21 false (wrapF .i64 (Int.add t23 (Int.ofNat 1))) M16)))
 (∃ (n22 : Nat), n22 < n ∧ Inv n22 false (wrapF .i64 (Int.add t23 (Int.ofNat 1))) M16))
 (∃ (n23 : Nat), n23 < n ∧ Inv n23 false (wrapF .i64 (Int.add t23 (Int.ofNat 1))) M))
 (cnd t8
 (∃ (n24 : Nat),
 ∃ (n25 : Nat),
 idxA Try.prog 22 (.slice ut7 ut7n ut7c) (.int .i64 t23) = some (.pointer (some (.mk n24 n25 none))) ∧
 ∃ (i26 : Int),
 rdVar Try.prog M 3 n24 n25 = some (.int .i64 i26) ∧
 ∃ (b27 : Bool),
 ∃ (M28 : Mem),
 Ret Try.prog 18 [.int .i64 i8, .int .i64 i26] M (.bool b27) M28 ∧
 cnd b27
 (cnd (!eqF i10 (Int.ofNat 0)) (∃ (n29 : Nat), n29 < n ∧ Inv n29 true (wrapF .i64 (Int.add t23 (Int.ofNat 1))) M28)
 (cnd (eqF i8 (Int.ofNat 1)) (∃ (n30 : Nat), n30 < n ∧ Inv n30 true (wrapF .i64 (Int.add t23 (Int.ofNat 1))) M28)
 (∃ (n31 : Nat), n31 < n ∧ Inv n31 false (wrapF .i64 (Int.add t23 (Int.ofNat 1))) M28)))
 (∃ (n32 : Nat), n32 < n ∧ Inv n32 false (wrapF .i64 (Int.add t23 (Int.ofNat 1))) M28))
 (∃ (n33 : Nat), n33 < n ∧ Inv n33 false (wrapF .i64 (Int.add t23 (Int.ofNat 1))) M)))
 (∃ (i34 : Int),
 rdVar Try.prog M 3 ut4 ut4o = some (.int .i64 i34) ∧
 cnd (eqF i34 (Int.ofNat 30))
 (cnd t8
 (∃ (n35 : Nat),
 ∃ (n36 : Nat),
 idxA Try.prog 22 (.slice ut7 ut7n ut7c) (.int .i64 t23) = some (.pointer (some (.mk n35 n36 none))) ∧
 ∃ (i37 : Int),
 rdVar Try.prog M 3 n35 n36 = some (.int .i64 i37) ∧
 ∃ (b38 : Bool),
 ∃ (M39 : Mem),
 Ret Try.prog 18 [.int .i64 i8, .int .i64 i37] M (.bool b38) M39 ∧
 cnd b38
 (cnd (!eqF t23 (Int.ofNat 1)) (∃ (n40 : Nat), n40 < n ∧ Inv n40 true (wrapF .i64 (Int.add t23 (Int.ofNat 1))) M39)
 (∃ (n41 : Nat), n41 < n ∧ Inv n41 (eqF i8 (Int.ofNat 16)) (wrapF .i64 (Int.add t23 (Int.ofNat 1))) M39))
 (∃ (n42 : Nat), n42 < n ∧ Inv n42 false (wrapF .i64 (Int.add t23 (Int.ofNat 1))) M39))
 (∃ (n43 : Nat), n43 < n ∧ Inv n43 false (wrapF .i64 (Int.add t23 (Int.ofNat 1))) M))
 (cnd t8
 (∃ (n44 : Nat),
 ∃ (n45 : Nat),
 idxA Try.prog 22 (.slice ut7 ut7n ut7c) (.int .i64 t23) = some (.pointer (some (.mk n44 n45 none))) ∧
 ∃ (i46 : Int),
 rdVar Try.prog M 3 n44 n45 = some (.int .i64 i46) ∧
 ∃ (b47 : Bool),
 ∃ (M48 : Mem),
 Ret Try.prog 18 [.int .i64 i8, .int .i64 i46] M (.bool b47) M48 ∧
 cnd b47 (∃ (n49 : Nat), n49 < n ∧ Inv n49 true (wrapF .i64 (Int.add t23 (Int.ofNat 1))) M48)
 (∃ (n50 : Nat), n50 < n ∧ Inv n50 false (wrapF .i64 (Int.add t23 (Int.ofNat 1))) M48))
 (∃ (n51 : Nat), n51 < n ∧ Inv n51 false (wrapF .i64 (Int.add t23 (Int.ofNat 1))) M))))
 (R0 t8 M) )
 {n : Nat} {t8 : Bool} {t23 : Int} {M : Mem} (h0 : Inv n t8 t23 M) {t0 : List Value} (hT : TIn 76 [(3, .pointer (some (.mk ut3 ut3o none))), (4, .pointer (some (.mk ut4 ut4o none))), (7, .slice ut7 ut7n ut7c), (21, .slice ut21 ut21n ut21c), (22, .int .i64 ut22), (8, .bool t8), (23, .int .i64 t23)] t0) :
 (∃ (ot8 : Bool) (M' : Mem), LpT Try.prog (Env.fn 75) [1, 1, 0, 1, 0] t0 d M rc (.exit 0) [(8, .bool ot8)] M' ∧ R0 ot8 M') := by
 rcases loopT (P := Try.prog) (E := (Env.fn 75)) (sym := true) (ann := ann75) (p := [1, 1, 0, 1, 0]) (stepC (codeOf Try.prog 75 [1, 1, 0, 1, 0]) 0) (by kernel_rfl) (by kernel_rfl) [(3, .pointer (some (.mk ut3 ut3o none))), (4, .pointer (some (.mk ut4 ut4o none))), (7, .slice ut7 ut7n ut7c), (21, .slice ut21 ut21n ut21c), (22, .int .i64 ut22)] [8, 23] (by kernel_rfl) (fun n xs M => match xs with | [.bool t8, .int .i64 t23] => Inv n t8 t23 M | _ => False) [((.exit 0), [8], fun xs M => match xs with | [.bool ot8] => R0 ot8 M | _ => False)] (fun n xs M h uu => by split at h <;> first | exact h.elim | exact (held_of (by kernel_rfl) (step n _ _ M h)).ok) (xs := [.bool t8, .int .i64 t23]) hT rfl h0 with ⟨_, _, h, g⟩
 · split at g <;> first | exact ⟨_, _, h, g⟩ | exact g.elim

theorem w76 {p00 : Option Addr} {p00n p00c : Nat} {p01 : Option Addr} {p01n p01c : Nat} {M : Mem} {K : Value → Mem → Prop} (h : ∃ (a0 : Option Addr),
 ∃ (n1 : Nat),
 ∃ (n2 : Nat),
 rdVar Try.prog (M ++ [AObj.cells [.slice p00 p00n p00c, .slice p01 p01n p01c] 2 Mode.live]) 30 (List.length M) 0 = some (.slice a0 n1 n2) ∧
 ∃ (a3 : Option Addr),
 ∃ (n4 : Nat),
 ∃ (n5 : Nat),
 ∃ (M6 : Mem),
 makeA Try.prog (M ++ [AObj.cells [.slice p00 p00n p00c, .slice p01 p01n p01c] 2 Mode.live]) 22 (.int .i64 (Int.ofNat n1))
 (.int .i64 (Int.ofNat n1)) =
 some (Value.slice a3 n4 n5, M6) ∧
 ∃ (a7 : Option Addr),
 ∃ (n8 : Nat),
 ∃ (n9 : Nat),
 rdVar Try.prog M6 30 (List.length M) 0 = some (.slice a7 n8 n9) ∧
 ∀ (t10 : List Value),
 TIn 51
 [(1, .pointer (some (.mk (List.length M) 0 none))), (3, .slice a3 n4 n5), (2, .int .i64 (Int.ofNat 0)),
 (4, .int .i64 (wrapF .i64 (Int.sub (Int.ofNat n8) (Int.ofNat 1))))]
 t10 →
 ∃ (i11 : Int),
 ∃ (M12 : Mem),
 LpT Try.prog (Env.fn 76) [1, 1, 0, 1, 0] t10 [] M6 false (.exit 0) [(2, .int .i64 i11)] M12 ∧
 ∀ (w13 : Nat → Value), K (.int .i64 i11) M12) :
 Held (wpRet Try.prog 76 true ann76 [.agg (Array.mk [.slice p00 p00n p00c, .slice p01 p01n p01c])] M K) := held_of (by kernel_rfl) h
theorem loop76_0 {ut1 ut1o : Nat} {ut3 : Option Addr} {ut3n ut3c : Nat} {d : List ADef} {rc : Bool} (Inv : Nat → Int → Int → Mem → Prop) (R0 : Int → Mem → Prop)
 (step : ∀ (n : Nat) (t2 t4 : Int) (M : Mem), Inv n t2 t4 M →
 cnd (leF (Int.ofNat 0) t4)
 (∃ (n0 : Nat),
 ∃ (n1 : Nat),
 idxA Try.prog 22 (.slice ut3 ut3n ut3c) (.int .i64 t4) = some (.pointer (some (.mk n0 n1 none))) ∧
 ∃ (i2 : Int),
 rdVar Try.prog M 3 n0 n1 = some (.int .i64 i2) ∧
 ∃ (n3 : Nat),
 ∃ (n4 : Nat),
 idxA Try.prog 22 (.slice ut3 ut3n ut3c) (.int .i64 t4) = some (.pointer (some (.mk n3 n4 none))) ∧
 ∃ (M5 : Mem),
 wrCells M n3 n4 [.int .i64 (wrapF .i64 (Int.add i2 (Int.ofNat 1)))] = some M5 ∧
 ∃ (n6 : Nat),
 ∃ (n7 : Nat),
 idxA Try.prog 22 (.slice ut3 ut3n ut3c) (.int .i64 t4) = some (.pointer (some (.mk n6 n7 none))) ∧
 ∃ (i8 : Int),
 rdVar Try.prog M5 3 n6 n7 = some (.int .i64 i8) ∧
 ∃ (a9 : Option Addr),
 ∃ (n10 : Nat),
 ∃ (n11 : Nat),
 rdVar Try.prog M5 30 ut1 ut1o = some (.slice a9 n10 n11) ∧
 ∃ (n12 : Nat),
 ∃ (n13 : Nat),
 idxA Try.prog 30 (.slice a9 n10 n11) (.int .i64 t4) = some (.pointer (some (.mk n12 n13 none))) ∧
 ∃ (a14 : Option Addr),
 ∃ (n15 : Nat),
 ∃ (n16 : Nat),
 rdVar Try.prog M5 22 n12 (Nat.succ (Nat.succ (Nat.succ n13))) = some (.slice a14 n15 n16) ∧
 ∀ (t17 : List Value),
 TIn 51
 [(1, .pointer (some (.mk ut1 ut1o none))),
 (2, .int .i64 (if t2 < i8 then i8 else t2)), (3, .slice ut3 ut3n ut3c),
 (4, .int .i64 t4), (36, .slice a14 n15 n16), (37, .int .i64 (Int.ofNat n15)),
 (38, .int .i64 (Int.ofNat 0))]
 t17 →
 ∃ (M18 : Mem),
 LpT Try.prog (Env.fn 76) [1, 1, 0, 1, 0, 0, 1, 0, 0, 1, 1, 1, 0] t17 d M5 rc (.exit 2) [] M18 ∧
 ∀ (w19 : Nat → Value),
 ∃ (n20 : Nat),
 n20 < n ∧
 Inv n20 (if t2 < i8 then i8 else t2) (wrapF .i64 (Int.sub t4 (Int.ofNat 1))) M18)
 (R0 t2 M) )
 {n : Nat} {t2 t4 : Int} {M : Mem} (h0 : Inv n t2 t4 M) {t0 : List Value} (hT : TIn 51 [(1, .pointer (some (.mk ut1 ut1o none))), (3, .slice ut3 ut3n ut3c), (2, .int .i64 t2), (4, .int .i64 t4)] t0) :
 (∃ (ot2 : Int) (M' : Mem), LpT Try.prog (Env.fn 76) [1, 1, 0, 1, 0] t0 d M rc (.exit 0) [(2, .int .i64 ot2)] M' ∧ R0 ot2 M') := by
 rcases loopT (P := Try.prog) (E := (Env.fn 76)) (sym := true) (ann := ann76) (p := [1, 1, 0, 1, 0]) (stepC (codeOf Try.prog 76 [1, 1, 0, 1, 0]) 0) (by kernel_rfl) (by kernel_rfl) [(1, .pointer (some (.mk ut1 ut1o none))), (3, .slice ut3 ut3n ut3c)] [2, 4] (by kernel_rfl) (fun n xs M => match xs with | [.int .i64 t2, .int .i64 t4] => Inv n t2 t4 M | _ => False) [((.exit 0), [2], fun xs M => match xs with | [.int .i64 ot2] => R0 ot2 M | _ => False)] (fun n xs M h uu => by split at h <;> first | exact h.elim | exact (held_of (by kernel_rfl) (step n _ _ M h)).ok) (xs := [.int .i64 t2, .int .i64 t4]) hT rfl h0 with ⟨_, _, h, g⟩
 · split at g <;> first | exact ⟨_, _, h, g⟩ | exact g.elim

theorem loop76_1 {ut1 ut1o : Nat} {ut2 : Int} {ut3 : Option Addr} {ut3n ut3c : Nat} {ut4 : Int} {ut36 : Option Addr} {ut36n ut36c : Nat} {ut37 : Int} {d : List ADef} {rc : Bool} (Inv : Nat → Int → Mem → Prop) (R0 : Mem → Prop)
 (step : ∀ (n : Nat) (t38 : Int) (M : Mem), Inv n t38 M →
 cnd (!leF ut37 t38)
 (∃ (n0 : Nat),
 ∃ (n1 : Nat),
 idxA Try.prog 22 (.slice ut36 ut36n ut36c) (.int .i64 t38) = some (.pointer (some (.mk n0 n1 none))) ∧
 ∃ (i2 : Int),
 rdVar Try.prog M 3 n0 n1 = some (.int .i64 i2) ∧
 ∃ (n3 : Nat),
 ∃ (n4 : Nat),
 idxA Try.prog 22 (.slice ut3 ut3n ut3c) (.int .i64 ut4) = some (.pointer (some (.mk n3 n4 none))) ∧
 ∃ (i5 : Int),
 rdVar Try.prog M 3 n3 n4 = some (.int .i64 i5) ∧
 ∃ (n6 : Nat),
 ∃ (n7 : Nat),
 idxA Try.prog 22 (.slice ut3 ut3n ut3c) (.int .i64 i2) = some (.pointer (some (.mk n6 n7 none))) ∧
 ∃ (M8 : Mem), wrCells M n6 n7 [.int .i64 i5] = some M8 ∧ ∃ (n9 : Nat), n9 < n ∧ Inv n9 (wrapF .i64 (Int.add t38 (Int.ofNat 1))) M8)
 (R0 M) )
 {n : Nat} {t38 : Int} {M : Mem} (h0 : Inv n t38 M) {t0 : List Value} (hT : TIn 51 [(1, .pointer (some (.mk ut1 ut1o none))), (2, .int .i64 ut2), (3, .slice ut3 ut3n ut3c), (4, .int .i64 ut4), (36, .slice ut36 ut36n ut36c), (37, .int .i64 ut37), (38, .int .i64 t38)] t0) :
 (∃ (M' : Mem), LpT Try.prog (Env.fn 76) [1, 1, 0, 1, 0, 0, 1, 0, 0, 1, 1, 1, 0] t0 d M rc (.exit 2) [] M' ∧ R0 M') := by
 rcases loopT (P := Try.prog) (E := (Env.fn 76)) (sym := true) (ann := ann76) (p := [1, 1, 0, 1, 0, 0, 1, 0, 0, 1, 1, 1, 0]) (stepC (codeOf Try.prog 76 [1, 1, 0, 1, 0, 0, 1, 0, 0, 1, 1, 1, 0]) 0) (by kernel_rfl) (by kernel_rfl) [(1, .pointer (some (.mk ut1 ut1o none))), (2, .int .i64 ut2), (3, .slice ut3 ut3n ut3c), (4, .int .i64 ut4), (36, .slice ut36 ut36n ut36c), (37, .int .i64 ut37)] [38] (by kernel_rfl) (fun n xs M => match xs with | [.int .i64 t38] => Inv n t38 M | _ => False) [((.exit 2), [], fun xs M => match xs with | [] => R0 M | _ => False)] (fun n xs M h uu => by split at h <;> first | exact h.elim | exact (held_of (by kernel_rfl) (step n _ M h)).ok) (xs := [.int .i64 t38]) hT rfl h0 with ⟨_, _, h, g⟩
 · split at g <;> first | exact ⟨_, h, g⟩ | exact g.elim

theorem w43 {p00 : Option Addr} {p00n p00c : Nat} {p01 : Option Addr} {p01n p01c : Nat} {M : Mem} {K : Value → Mem → Prop} (h : ∃ (a0 : Option Addr),
 ∃ (n1 : Nat),
 ∃ (n2 : Nat),
 ∃ (a3 : Option Addr),
 ∃ (n4 : Nat),
 ∃ (n5 : Nat),
 rdVar Try.prog (M ++ [AObj.cells [.slice p00 p00n p00c, .slice p01 p01n p01c] 2 Mode.live]) 32 (List.length M) 0 =
 some (Value.agg (Array.mk [.slice a0 n1 n2, .slice a3 n4 n5])) ∧
 ∃ (a6 : Option Addr),
 ∃ (n7 : Nat),
 ∃ (n8 : Nat),
 ∃ (b9 : Bool),
 ∃ (M10 : Mem),
 Ret Try.prog 73 [.agg (Array.mk [.slice a0 n1 n2, .slice a3 n4 n5])]
 (M ++ [AObj.cells [.slice p00 p00n p00c, .slice p01 p01n p01c] 2 Mode.live]) (.tuple (Array.mk [.slice a6 n7 n8, .bool b9])) M10 ∧
 cnd (!b9) (K (.tuple (Array.mk [.slice none 0 0, .int .i64 (Int.ofNat 0), .bool false])) M10)
 (∃ (a11 : Option Addr),
 ∃ (n12 : Nat),
 ∃ (n13 : Nat),
 ∃ (a14 : Option Addr),
 ∃ (n15 : Nat),
 ∃ (n16 : Nat),
 rdVar Try.prog M10 32 (List.length M) 0 = some (.agg (Array.mk [.slice a11 n12 n13, .slice a14 n15 n16])) ∧
 ∃ (b17 : Bool),
 ∃ (M18 : Mem),
 Ret Try.prog 74 [.agg (Array.mk [.slice a11 n12 n13, .slice a14 n15 n16]), .slice a6 n7 n8] M10 (.bool b17) M18 ∧
 cnd (!b17) (K (.tuple (Array.mk [.slice none 0 0, .int .i64 (Int.ofNat 0), .bool false])) M18)
 (∃ (n19 : Nat),
 ∃ (M20 : Mem),
 Ret Try.prog 33 [] M18 (.map (some n19)) M20 ∧
 ∃ (a21 : Option Addr),
 ∃ (n22 : Nat),
 ∃ (n23 : Nat),
 rdVar Try.prog M20 30 (List.length M) 0 = some (.slice a21 n22 n23) ∧
 ∀ (t24 : List Value),
 TIn 54
 [(1, .pointer (some (.mk (List.length M) 0 none))), (5, .map (some n19)), (25, .slice a21 n22 n23),
 (26, .int .i64 (Int.ofNat n22)), (2, .slice a6 n7 n8), (27, .int .i64 (Int.ofNat 0))]
 t24 →
 (∃ (a25 : Option Addr),
 ∃ (n26 : Nat),
 ∃ (n27 : Nat),
 ∃ (M28 : Mem),
 LpT Try.prog (Env.fn 43) [1, 1, 1, 1, 0, 1, 0] t24 [] M20 false (.exit 0) [(2, .slice a25 n26 n27)]
 M28 ∧
 ∀ (w29 : Nat → Value),
 ∃ (a30 : Option Addr),
 ∃ (n31 : Nat),
 ∃ (n32 : Nat),
 ∃ (a33 : Option Addr),
 ∃ (n34 : Nat),
 ∃ (n35 : Nat),
 rdVar Try.prog M28 32 (List.length M) 0 =
 some (Value.agg (Array.mk [.slice a30 n31 n32, .slice a33 n34 n35])) ∧
 ∃ (i36 : Int),
 ∃ (M37 : Mem),
 Ret Try.prog 76 [.agg (Array.mk [.slice a30 n31 n32, .slice a33 n34 n35])]
 M28 (.int .i64 i36) M37 ∧
 K
 (.tuple
 (Array.mk
 [.slice a25 n26 n27, .int .i64 i36,
 .bool (leF i36 (Int.ofNat 256))]))
 M37) ∨
 ∃ (a38 : Option Addr),
 ∃ (n39 : Nat),
 ∃ (n40 : Nat),
 ∃ (i41 : Int),
 ∃ (b42 : Bool),
 ∃ (M43 : Mem),
 LpT Try.prog (Env.fn 43) [1, 1, 1, 1, 0, 1, 0] t24 [] M20 false .ret
 [(2, .slice a38 n39 n40), (3, .int .i64 i41), (4, .bool b42)] M43 ∧
 ∀ (w44 : Nat → Value),
 K (.tuple (Array.mk [.slice a38 n39 n40, .int .i64 i41, .bool b42])) M43))) :
 Held (wpRet Try.prog 43 true ann43 [.agg (Array.mk [.slice p00 p00n p00c, .slice p01 p01n p01c])] M K) := held_of (by kernel_rfl) h
theorem loop43_0 {ut1 ut1o ut5 : Nat} {ut25 : Option Addr} {ut25n ut25c : Nat} {ut26 : Int} {d : List ADef} {rc : Bool} (Inv : Nat → Option Addr → Nat → Nat → Int → Mem → Prop) (R0 : Option Addr → Nat → Nat → Mem → Prop) (R1 : Option Addr → Nat → Nat → Int → Bool → Mem → Prop)
 (step : ∀ (n : Nat) (t2 : Option Addr) (t2n t2c : Nat) (t27 : Int) (M : Mem), Inv n t2 t2n t2c t27 M →
 cnd (!leF ut26 t27)
 (∃ (n0 : Nat),
 ∃ (n1 : Nat),
 idxA Try.prog 30 (.slice ut25 ut25n ut25c) (.int .i64 t27) = some (.pointer (some (.mk n0 n1 none))) ∧
 ∃ (i2 : Int),
 ∃ (s3 : ByteArray),
 ∃ (s4 : ByteArray),
 ∃ (a5 : Option Addr),
 ∃ (n6 : Nat),
 ∃ (n7 : Nat),
 ∃ (i8 : Int),
 rdVar Try.prog M 24 n0 n1 = some (.agg (Array.mk [.int .i64 i2, .string s3, .string s4, .slice a5 n6 n7, .int .i64 i8])) ∧
 ∃ (M9 : Mem),
 wrCells
 (M ++
 [AObj.cells
 [.int .i64 (Int.ofNat 0), .string (ByteArray.mk #[]), .string (ByteArray.mk #[]), .slice none 0 0,
 .int .i64 (Int.ofNat 0)]
 5 Mode.live])
 (List.length M) 0 [.int .i64 i2, .string s3, .string s4, .slice a5 n6 n7, .int .i64 i8] =
 some M9 ∧
 ∃ (i10 : Int),
 rdVar Try.prog M9 3 (List.length M) 0 = some (.int .i64 i10) ∧
 ∃ (s11 : ByteArray),
 (∃ (x12 : FuncId),
 ∃ (t13 : List Value),
 ∃ (b14 : Bool),
 (∃ (x15 : FuncId),
 ∃ (t16 : List Value),
 ∃ (b17 : Bool),
 lookupA Try.prog M9 62 (.map (some ut5)) (.int .i64 i10) true =
 some
 (.tuple
 (Array.mk
 [.agg
 (Array.mk
 [.string s11, .func (Fn.func x12) (Array.mk []) (Array.mk t13), .bool b14,
 .func (Fn.func x15) (Array.mk []) (Array.mk t16)]),
 .bool b17])) ∧
 ∃ (M18 : Mem),
 wrCells (M9 ++ [AObj.cells [.string (ByteArray.mk #[]), .nilFunc, .bool false, .nilFunc] 4 Mode.live])
 (List.length M9) 0
 [.string s11, .func (Fn.func x12) (Array.mk []) (Array.mk t13), .bool b14,
 .func (Fn.func x15) (Array.mk []) (Array.mk t16)] =
 some M18 ∧
 cnd (!b17) (R1 none 0 0 (Int.ofNat 0) false M18)
 (∃ (a19 : Option Addr),
 ∃ (n20 : Nat),
 ∃ (n21 : Nat),
 ∃ (a22 : Option Addr),
 ∃ (n23 : Nat),
 ∃ (n24 : Nat),
 rdVar Try.prog M18 32 ut1 ut1o = some (.agg (Array.mk [.slice a19 n20 n21, .slice a22 n23 n24])) ∧
 ∃ (i25 : Int),
 ∃ (s26 : ByteArray),
 ∃ (s27 : ByteArray),
 ∃ (a28 : Option Addr),
 ∃ (n29 : Nat),
 ∃ (n30 : Nat),
 ∃ (i31 : Int),
 rdVar Try.prog M18 24 (List.length M) 0 =
 some
 (.agg
 (Array.mk
 [.int .i64 i25, .string s26, .string s27, .slice a28 n29 n30,
 .int .i64 i31])) ∧
 ∃ (s32 : ByteArray),
 (∃ (x33 : FuncId),
 ∃ (t34 : List Value),
 ∃ (b35 : Bool),
 (∃ (x36 : FuncId),
 ∃ (t37 : List Value),
 rdVar Try.prog M18 60 (List.length M9) 0 =
 some
 (.agg
 (Array.mk
 [.string s32, .func (Fn.func x33) (Array.mk []) (Array.mk t34),
 .bool b35, .func (Fn.func x36) (Array.mk []) (Array.mk t37)])) ∧
 ∃ (b38 : Bool),
 ∃ (M39 : Mem),
 Ret Try.prog 75
 [.agg (Array.mk [.slice a19 n20 n21, .slice a22 n23 n24]),
 .agg
 (Array.mk
 [.int .i64 i25, .string s26, .string s27,
 .slice a28 n29 n30, .int .i64 i31]),
 .agg
 (Array.mk
 [.string s32,
 .func (Fn.func x33) (Array.mk []) (Array.mk t34),
 .bool b35,
 .func (Fn.func x36) (Array.mk []) (Array.mk t37)])]
 M18 (.bool b38) M39 ∧
 cnd (!b38) (R1 none 0 0 (Int.ofNat 0) false M39)
 (∃ (n40 : Nat),
 n40 < n ∧
 Inv n40 t2 t2n t2c (wrapF .i64 (Int.add t27 (Int.ofNat 1)))
 M39)) ∨
 rdVar Try.prog M18 60 (List.length M9) 0 =
 some
 (.agg
 (Array.mk
 [.string s32, .func (Fn.func x33) (Array.mk []) (Array.mk t34),
 .bool b35, .nilFunc])) ∧
 ∃ (b41 : Bool),
 ∃ (M42 : Mem),
 Ret Try.prog 75
 [.agg (Array.mk [.slice a19 n20 n21, .slice a22 n23 n24]),
 .agg
 (Array.mk
 [.int .i64 i25, .string s26, .string s27,
 .slice a28 n29 n30, .int .i64 i31]),
 .agg
 (Array.mk
 [.string s32, .func (Fn.func x33) (Array.mk []) (Array.mk t34),
 .bool b35, .nilFunc])]
 M18 (.bool b41) M42 ∧
 cnd (!b41) (R1 none 0 0 (Int.ofNat 0) false M42)
 (∃ (n43 : Nat),
 n43 < n ∧
 Inv n43 t2 t2n t2c (wrapF .i64 (Int.add t27 (Int.ofNat 1))) M42)) ∨
 ∃ (b44 : Bool),
 (∃ (x45 : FuncId),
 ∃ (t46 : List Value),
 rdVar Try.prog M18 60 (List.length M9) 0 =
 some
 (.agg
 (Array.mk
 [.string s32, .nilFunc, .bool b44,
 .func (Fn.func x45) (Array.mk []) (Array.mk t46)])) ∧
 ∃ (b47 : Bool),
 ∃ (M48 : Mem),
 Ret Try.prog 75
 [.agg (Array.mk [.slice a19 n20 n21, .slice a22 n23 n24]),
 .agg
 (Array.mk
 [.int .i64 i25, .string s26, .string s27,
 .slice a28 n29 n30, .int .i64 i31]),
 .agg
 (Array.mk
 [.string s32, .nilFunc, .bool b44,
 .func (Fn.func x45) (Array.mk []) (Array.mk t46)])]
 M18 (.bool b47) M48 ∧
 cnd (!b47) (R1 none 0 0 (Int.ofNat 0) false M48)
 (∃ (n49 : Nat),
 n49 < n ∧
 Inv n49 t2 t2n t2c (wrapF .i64 (Int.add t27 (Int.ofNat 1))) M48)) ∨
 rdVar Try.prog M18 60 (List.length M9) 0 =
 some
 (.agg
 (Array.mk [.string s32, .nilFunc, .bool b44, .nilFunc])) ∧
 ∃ (b50 : Bool),
 ∃ (M51 : Mem),
 Ret Try.prog 75
 [.agg (Array.mk [.slice a19 n20 n21, .slice a22 n23 n24]),
 .agg
 (Array.mk
 [.int .i64 i25, .string s26, .string s27,
 .slice a28 n29 n30, .int .i64 i31]),
 .agg
 (Array.mk [.string s32, .nilFunc, .bool b44, .nilFunc])]
 M18 (.bool b50) M51 ∧
 cnd (!b50) (R1 none 0 0 (Int.ofNat 0) false M51)
 (∃ (n52 : Nat),
 n52 < n ∧
 Inv n52 t2 t2n t2c (wrapF .i64 (Int.add t27 (Int.ofNat 1))) M51))) ∨
 ∃ (b53 : Bool),
 lookupA Try.prog M9 62 (.map (some ut5)) (.int .i64 i10) true =
 some
 (.tuple
 (Array.mk
 [.agg (Array.mk [.string s11, .func (Fn.func x12) (Array.mk []) (Array.mk t13), .bool b14, .nilFunc]),
 .bool b53])) ∧
 ∃ (M54 : Mem),
 wrCells (M9 ++ [AObj.cells [.string (ByteArray.mk #[]), .nilFunc, .bool false, .nilFunc] 4 Mode.live]) (List.length M9)
 0 [.string s11, .func (Fn.func x12) (Array.mk []) (Array.mk t13), .bool b14, .nilFunc] =
 some M54 ∧
 cnd (!b53) (R1 none 0 0 (Int.ofNat 0) false M54)
 (∃ (a55 : Option Addr),
 ∃ (n56 : Nat),
 ∃ (n57 : Nat),
 ∃ (a58 : Option Addr),
 ∃ (n59 : Nat),
 ∃ (n60 : Nat),
 rdVar Try.prog M54 32 ut1 ut1o = some (.agg (Array.mk [.slice a55 n56 n57, .slice a58 n59 n60])) ∧
 ∃ (i61 : Int),
 ∃ (s62 : ByteArray),
 ∃ (s63 : ByteArray),
 ∃ (a64 : Option Addr),
 ∃ (n65 : Nat),
 ∃ (n66 : Nat),
 ∃ (i67 : Int),
 rdVar Try.prog M54 24 (List.length M) 0 =
 some
 (.agg
 (Array.mk
 [.int .i64 i61, .string s62, .string s63, .slice a64 n65 n66,
 .int .i64 i67])) ∧
 ∃ (s68 : ByteArray),
 (∃ (x69 : FuncId),
 ∃ (t70 : List Value),
 ∃ (b71 : Bool),
 (∃ (x72 : FuncId),
 ∃ (t73 : List Value),
 rdVar Try.prog M54 60 (List.length M9) 0 =
 some
 (.agg
 (Array.mk
 [.string s68, .func (Fn.func x69) (Array.mk []) (Array.mk t70),
 .bool b71, .func (Fn.func x72) (Array.mk []) (Array.mk t73)])) ∧
 ∃ (b74 : Bool),
 ∃ (M75 : Mem),
 Ret Try.prog 75
 [.agg (Array.mk [.slice a55 n56 n57, .slice a58 n59 n60]),
 .agg
 (Array.mk
 [.int .i64 i61, .string s62, .string s63,
 .slice a64 n65 n66, .int .i64 i67]),
 .agg
 (Array.mk
 [.string s68, .func (Fn.func x69) (Array.mk []) (Array.mk t70),
 .bool b71, .func (Fn.func x72) (Array.mk []) (Array.mk t73)])]
 M54 (.bool b74) M75 ∧
 cnd (!b74) (R1 none 0 0 (Int.ofNat 0) false M75)
 (∃ (n76 : Nat),
 n76 < n ∧
 Inv n76 t2 t2n t2c (wrapF .i64 (Int.add t27 (Int.ofNat 1))) M75)) ∨
 rdVar Try.prog M54 60 (List.length M9) 0 =
 some
 (.agg
 (Array.mk
 [.string s68, .func (Fn.func x69) (Array.mk []) (Array.mk t70),
 .bool b71, .nilFunc])) ∧
 ∃ (b77 : Bool),
 ∃ (M78 : Mem),
 Ret Try.prog 75
 [.agg (Array.mk [.slice a55 n56 n57, .slice a58 n59 n60]),
 .agg
 (Array.mk
 [.int .i64 i61, .string s62, .string s63,
 .slice a64 n65 n66, .int .i64 i67]),
 .agg
 (Array.mk
 [.string s68, .func (Fn.func x69) (Array.mk []) (Array.mk t70),
 .bool b71, .nilFunc])]
 M54 (.bool b77) M78 ∧
 cnd (!b77) (R1 none 0 0 (Int.ofNat 0) false M78)
 (∃ (n79 : Nat),
 n79 < n ∧
 Inv n79 t2 t2n t2c (wrapF .i64 (Int.add t27 (Int.ofNat 1))) M78)) ∨
 ∃ (b80 : Bool),
 (∃ (x81 : FuncId),
 ∃ (t82 : List Value),
 rdVar Try.prog M54 60 (List.length M9) 0 =
 some
 (.agg
 (Array.mk
 [.string s68, .nilFunc, .bool b80,
 .func (Fn.func x81) (Array.mk []) (Array.mk t82)])) ∧
 ∃ (b83 : Bool),
 ∃ (M84 : Mem),
 Ret Try.prog 75
 [.agg (Array.mk [.slice a55 n56 n57, .slice a58 n59 n60]),
 .agg
 (Array.mk
 [.int .i64 i61, .string s62, .string s63,
 .slice a64 n65 n66, .int .i64 i67]),
 .agg
 (Array.mk
 [.string s68, .nilFunc, .bool b80,
 .func (Fn.func x81) (Array.mk []) (Array.mk t82)])]
 M54 (.bool b83) M84 ∧
 cnd (!b83) (R1 none 0 0 (Int.ofNat 0) false M84)
 (∃ (n85 : Nat),
 n85 < n ∧
 Inv n85 t2 t2n t2c (wrapF .i64 (Int.add t27 (Int.ofNat 1))) M84)) ∨
 rdVar Try.prog M54 60 (List.length M9) 0 =
 some (Value.agg (Array.mk [.string s68, .nilFunc, .bool b80, .nilFunc])) ∧
 ∃ (b86 : Bool),
 ∃ (M87 : Mem),
 Ret Try.prog 75
 [.agg (Array.mk [.slice a55 n56 n57, .slice a58 n59 n60]),
 .agg
 (Array.mk
 [.int .i64 i61, .string s62, .string s63,
 .slice a64 n65 n66, .int .i64 i67]),
 .agg (Array.mk [.string s68, .nilFunc, .bool b80, .nilFunc])]
 M54 (.bool b86) M87 ∧
 cnd (!b86) (R1 none 0 0 (Int.ofNat 0) false M87)
 (∃ (n88 : Nat),
 n88 < n ∧ Inv n88 t2 t2n t2c (wrapF .i64 (Int.add t27 (Int.ofNat 1))) M87))) ∨
 ∃ (b89 : Bool),
 (∃ (x90 : FuncId),
 ∃ (t91 : List Value),
 ∃ (b92 : Bool),
 lookupA Try.prog M9 62 (.map (some ut5)) (.int .i64 i10) true =
 some
 (.tuple
 (Array.mk
 [.agg (Array.mk [.string s11, .nilFunc, .bool b89, .func (Fn.func x90) (Array.mk []) (Array.mk t91)]),
 .bool b92])) ∧
 ∃ (M93 : Mem),
 wrCells (M9 ++ [AObj.cells [.string (ByteArray.mk #[]), .nilFunc, .bool false, .nilFunc] 4 Mode.live]) (List.length M9)
 0 [.string s11, .nilFunc, .bool b89, .func (Fn.func x90) (Array.mk []) (Array.mk t91)] =
 some M93 ∧
 cnd (!b92) (R1 none 0 0 (Int.ofNat 0) false M93)
 (∃ (a94 : Option Addr),
 ∃ (n95 : Nat),
 ∃ (n96 : Nat),
 ∃ (a97 : Option Addr),
 ∃ (n98 : Nat),
 ∃ (n99 : Nat),
 rdVar Try.prog M93 32 ut1 ut1o = some (.agg (Array.mk [.slice a94 n95 n96, .slice a97 n98 n99])) ∧
 ∃ (i100 : Int),
 ∃ (s101 : ByteArray),
 ∃ (s102 : ByteArray),
 ∃ (a103 : Option Addr),
 ∃ (n104 : Nat),
 ∃ (n105 : Nat),
 ∃ (i106 : Int),
 rdVar Try.prog M93 24 (List.length M) 0 =
 some
 (.agg
 (Array.mk
 [.int .i64 i100, .string s101, .string s102, .slice a103 n104 n105,
 .int .i64 i106])) ∧
 ∃ (s107 : ByteArray),
 (∃ (x108 : FuncId),
 ∃ (t109 : List Value),
 ∃ (b110 : Bool),
 (∃ (x111 : FuncId),
 ∃ (t112 : List Value),
 rdVar Try.prog M93 60 (List.length M9) 0 =
 some
 (.agg
 (Array.mk
 [.string s107, .func (Fn.func x108) (Array.mk []) (Array.mk t109),
 .bool b110, .func (Fn.func x111) (Array.mk []) (Array.mk t112)])) ∧
 ∃ (b113 : Bool),
 ∃ (M114 : Mem),
 Ret Try.prog 75
 [.agg (Array.mk [.slice a94 n95 n96, .slice a97 n98 n99]),
 .agg
 (Array.mk
 [.int .i64 i100, .string s101, .string s102,
 .slice a103 n104 n105, .int .i64 i106]),
 .agg
 (Array.mk
 [.string s107,
 .func (Fn.func x108) (Array.mk []) (Array.mk t109),
 .bool b110,
 .func (Fn.func x111) (Array.mk []) (Array.mk t112)])]
 M93 (.bool b113) M114 ∧
 cnd (!b113) (R1 none 0 0 (Int.ofNat 0) false M114)
 (∃ (n115 : Nat),
 n115 < n ∧
 Inv n115 t2 t2n t2c (wrapF .i64 (Int.add t27 (Int.ofNat 1))) M114)) ∨
 rdVar Try.prog M93 60 (List.length M9) 0 =
 some
 (.agg
 (Array.mk
 [.string s107, .func (Fn.func x108) (Array.mk []) (Array.mk t109),
 .bool b110, .nilFunc])) ∧
 ∃ (b116 : Bool),
 ∃ (M117 : Mem),
 Ret Try.prog 75
 [.agg (Array.mk [.slice a94 n95 n96, .slice a97 n98 n99]),
 .agg
 (Array.mk
 [.int .i64 i100, .string s101, .string s102,
 .slice a103 n104 n105, .int .i64 i106]),
 .agg
 (Array.mk
 [.string s107, .func (Fn.func x108) (Array.mk []) (Array.mk t109),
 .bool b110, .nilFunc])]
 M93 (.bool b116) M117 ∧
 cnd (!b116) (R1 none 0 0 (Int.ofNat 0) false M117)
 (∃ (n118 : Nat),
 n118 < n ∧
 Inv n118 t2 t2n t2c (wrapF .i64 (Int.add t27 (Int.ofNat 1))) M117)) ∨
 ∃ (b119 : Bool),
 (∃ (x120 : FuncId),
 ∃ (t121 : List Value),
 rdVar Try.prog M93 60 (List.length M9) 0 =
 some
 (.agg
 (Array.mk
 [.string s107, .nilFunc, .bool b119,
 .func (Fn.func x120) (Array.mk []) (Array.mk t121)])) ∧
 ∃ (b122 : Bool),
 ∃ (M123 : Mem),
 Ret Try.prog 75
 [.agg (Array.mk [.slice a94 n95 n96, .slice a97 n98 n99]),
 .agg
 (Array.mk
 [.int .i64 i100, .string s101, .string s102,
 .slice a103 n104 n105, .int .i64 i106]),
 .agg
 (Array.mk
 [.string s107, .nilFunc, .bool b119,
 .func (Fn.func x120) (Array.mk []) (Array.mk t121)])]
 M93 (.bool b122) M123 ∧
 cnd (!b122) (R1 none 0 0 (Int.ofNat 0) false M123)
 (∃ (n124 : Nat),
 n124 < n ∧
 Inv n124 t2 t2n t2c (wrapF .i64 (Int.add t27 (Int.ofNat 1))) M123)) ∨
 rdVar Try.prog M93 60 (List.length M9) 0 =
 some
 (.agg (Array.mk [.string s107, .nilFunc, .bool b119, .nilFunc])) ∧
 ∃ (b125 : Bool),
 ∃ (M126 : Mem),
 Ret Try.prog 75
 [.agg (Array.mk [.slice a94 n95 n96, .slice a97 n98 n99]),
 .agg
 (Array.mk
 [.int .i64 i100, .string s101, .string s102,
 .slice a103 n104 n105, .int .i64 i106]),
 .agg
 (Array.mk [.string s107, .nilFunc, .bool b119, .nilFunc])]
 M93 (.bool b125) M126 ∧
 cnd (!b125) (R1 none 0 0 (Int.ofNat 0) false M126)
 (∃ (n127 : Nat),
 n127 < n ∧
 Inv n127 t2 t2n t2c (wrapF .i64 (Int.add t27 (Int.ofNat 1))) M126))) ∨
 ∃ (b128 : Bool),
 lookupA Try.prog M9 62 (.map (some ut5)) (.int .i64 i10) true =
 some (Value.tuple (Array.mk [.agg (Array.mk [.string s11, .nilFunc, .bool b89, .nilFunc]), .bool b128])) ∧
 ∃ (M129 : Mem),
 wrCells (M9 ++ [AObj.cells [.string (ByteArray.mk #[]), .nilFunc, .bool false, .nilFunc] 4 Mode.live]) (List.length M9) 0
 [.string s11, .nilFunc, .bool b89, .nilFunc] =
 some M129 ∧
 cnd (!b128) (R1 none 0 0 (Int.ofNat 0) false M129)
 (∃ (a130 : Option Addr),
 ∃ (n131 : Nat),
 ∃ (n132 : Nat),
 ∃ (a133 : Option Addr),
 ∃ (n134 : Nat),
 ∃ (n135 : Nat),
 rdVar Try.prog M129 32 ut1 ut1o = some (.agg (Array.mk [.slice a130 n131 n132, .slice a133 n134 n135])) ∧
 ∃ (i136 : Int),
 ∃ (s137 : ByteArray),
 ∃ (s138 : ByteArray),
 ∃ (a139 : Option Addr),
 ∃ (n140 : Nat),
 ∃ (n141 : Nat),
 ∃ (i142 : Int),
 rdVar Try.prog M129 24 (List.length M) 0 =
 some
 (.agg
 (Array.mk
 [.int .i64 i136, .string s137, .string s138, .slice a139 n140 n141,
 .int .i64 i142])) ∧
 ∃ (s143 : ByteArray),
 (∃ (x144 : FuncId),
 ∃ (t145 : List Value),
 ∃ (b146 : Bool),
 (∃ (x147 : FuncId),
 ∃ (t148 : List Value),
 rdVar Try.prog M129 60 (List.length M9) 0 =
 some
 (.agg
 (Array.mk
 [.string s143, .func (Fn.func x144) (Array.mk []) (Array.mk t145),
 .bool b146, .func (Fn.func x147) (Array.mk []) (Array.mk t148)])) ∧
 ∃ (b149 : Bool),
 ∃ (M150 : Mem),
 Ret Try.prog 75
 [.agg (Array.mk [.slice a130 n131 n132, .slice a133 n134 n135]),
 .agg
 (Array.mk
 [.int .i64 i136, .string s137, .string s138,
 .slice a139 n140 n141, .int .i64 i142]),
 .agg
 (Array.mk
 [.string s143, .func (Fn.func x144) (Array.mk []) (Array.mk t145),
 .bool b146, .func (Fn.func x147) (Array.mk []) (Array.mk t148)])]
 M129 (.bool b149) M150 ∧
 cnd (!b149) (R1 none 0 0 (Int.ofNat 0) false M150)
 (∃ (n151 : Nat),
 n151 < n ∧
 Inv n151 t2 t2n t2c (wrapF .i64 (Int.add t27 (Int.ofNat 1))) M150)) ∨
 rdVar Try.prog M129 60 (List.length M9) 0 =
 some
 (.agg
 (Array.mk
 [.string s143, .func (Fn.func x144) (Array.mk []) (Array.mk t145),
 .bool b146, .nilFunc])) ∧
 ∃ (b152 : Bool),
 ∃ (M153 : Mem),
 Ret Try.prog 75
 [.agg (Array.mk [.slice a130 n131 n132, .slice a133 n134 n135]),
 .agg
 (Array.mk
 [.int .i64 i136, .string s137, .string s138,
 .slice a139 n140 n141, .int .i64 i142]),
 .agg
 (Array.mk
 [.string s143, .func (Fn.func x144) (Array.mk []) (Array.mk t145),
 .bool b146, .nilFunc])]
 M129 (.bool b152) M153 ∧
 cnd (!b152) (R1 none 0 0 (Int.ofNat 0) false M153)
 (∃ (n154 : Nat),
 n154 < n ∧
 Inv n154 t2 t2n t2c (wrapF .i64 (Int.add t27 (Int.ofNat 1))) M153)) ∨
 ∃ (b155 : Bool),
 (∃ (x156 : FuncId),
 ∃ (t157 : List Value),
 rdVar Try.prog M129 60 (List.length M9) 0 =
 some
 (.agg
 (Array.mk
 [.string s143, .nilFunc, .bool b155,
 .func (Fn.func x156) (Array.mk []) (Array.mk t157)])) ∧
 ∃ (b158 : Bool),
 ∃ (M159 : Mem),
 Ret Try.prog 75
 [.agg (Array.mk [.slice a130 n131 n132, .slice a133 n134 n135]),
 .agg
 (Array.mk
 [.int .i64 i136, .string s137, .string s138,
 .slice a139 n140 n141, .int .i64 i142]),
 .agg
 (Array.mk
 [.string s143, .nilFunc, .bool b155,
 .func (Fn.func x156) (Array.mk []) (Array.mk t157)])]
 M129 (.bool b158) M159 ∧
 cnd (!b158) (R1 none 0 0 (Int.ofNat 0) false M159)
 (∃ (n160 : Nat),
 n160 < n ∧
 Inv n160 t2 t2n t2c (wrapF .i64 (Int.add t27 (Int.ofNat 1))) M159)) ∨
 rdVar Try.prog M129 60 (List.length M9) 0 =
 some (Value.agg (Array.mk [.string s143, .nilFunc, .bool b155, .nilFunc])) ∧
 ∃ (b161 : Bool),
 ∃ (M162 : Mem),
 Ret Try.prog 75
 [.agg (Array.mk [.slice a130 n131 n132, .slice a133 n134 n135]),
 .agg
 (Array.mk
 [.int .i64 i136, .string s137, .string s138,
 .slice a139 n140 n141, .int .i64 i142]),
 .agg (Array.mk [.string s143, .nilFunc, .bool b155, .nilFunc])]
 M129 (.bool b161) M162 ∧
 cnd (!b161) (R1 none 0 0 (Int.ofNat 0) false M162)
 (∃ (n163 : Nat),
 n163 < n ∧ Inv n163 t2 t2n t2c (wrapF .i64 (Int.add t27 (Int.ofNat 1))) M162)))
 (R0 t2 t2n t2c M) )
 {n : Nat} {t2 : Option Addr} {t2n t2c : Nat} {t27 : Int} {M : Mem} (h0 : Inv n t2 t2n t2c t27 M) {t0 : List Value} (hT : TIn 54 [(1, .pointer (some (.mk ut1 ut1o none))), (5, .map (some ut5)), (25, .slice ut25 ut25n ut25c), (26, .int .i64 ut26), (2, .slice t2 t2n t2c), (27, .int .i64 t27)] t0) :
 (∃ (ot2 : Option Addr) (ot2n ot2c : Nat) (M' : Mem), LpT Try.prog (Env.fn 43) [1, 1, 1, 1, 0, 1, 0] t0 d M rc (.exit 0) [(2, .slice ot2 ot2n ot2c)] M' ∧ R0 ot2 ot2n ot2c M') ∨ (∃ (ot2 : Option Addr) (ot2n ot2c : Nat) (ot3 : Int) (ot4 : Bool) (M' : Mem), LpT Try.prog (Env.fn 43) [1, 1, 1, 1, 0, 1, 0] t0 d M rc .ret [(2, .slice ot2 ot2n ot2c), (3, .int .i64 ot3), (4, .bool ot4)] M' ∧ R1 ot2 ot2n ot2c ot3 ot4 M') := by
 rcases loopT (P := Try.prog) (E := (Env.fn 43)) (sym := true) (ann := ann43) (p := [1, 1, 1, 1, 0, 1, 0]) (stepC (codeOf Try.prog 43 [1, 1, 1, 1, 0, 1, 0]) 0) (by kernel_rfl) (by kernel_rfl) [(1, .pointer (some (.mk ut1 ut1o none))), (5, .map (some ut5)), (25, .slice ut25 ut25n ut25c), (26, .int .i64 ut26)] [2, 27] (by kernel_rfl) (fun n xs M => match xs with | [.slice t2 t2n t2c, .int .i64 t27] => Inv n t2 t2n t2c t27 M | _ => False) [((.exit 0), [2], fun xs M => match xs with | [.slice ot2 ot2n ot2c] => R0 ot2 ot2n ot2c M | _ => False), (.ret, [2, 3, 4], fun xs M => match xs with | [.slice ot2 ot2n ot2c, .int .i64 ot3, .bool ot4] => R1 ot2 ot2n ot2c ot3 ot4 M | _ => False)] (fun n xs M h uu => by split at h <;> first | exact h.elim | exact (held_of (by kernel_rfl) (step n _ _ _ _ M h)).ok) (xs := [.slice t2 t2n t2c, .int .i64 t27]) hT rfl h0 with ⟨_, _, h, g⟩ | ⟨_, _, h, g⟩
 · split at g <;> first | exact (.inl ⟨_, _, _, _, h, g⟩) | exact g.elim
 · split at g <;> first | exact (.inr ⟨_, _, _, _, _, _, h, g⟩) | exact g.elim

theorem w21 {p00 : Option Addr} {p00n p00c : Nat} {p01 : Option Addr} {p01n p01c : Nat} {M : Mem} {K : Value → Mem → Prop} (h : ∃ (a0 : Option Addr),
 ∃ (n1 : Nat),
 ∃ (n2 : Nat),
 ∃ (a3 : Option Addr),
 ∃ (n4 : Nat),
 ∃ (n5 : Nat),
 rdVar Try.prog (M ++ [AObj.cells [.slice p00 p00n p00c, .slice p01 p01n p01c] 2 Mode.live]) 32 (List.length M) 0 =
 some (Value.agg (Array.mk [.slice a0 n1 n2, .slice a3 n4 n5])) ∧
 ∃ (a6 : Option Addr),
 ∃ (n7 : Nat),
 ∃ (n8 : Nat),
 ∃ (i9 : Int),
 ∃ (b10 : Bool),
 ∃ (M11 : Mem),
 Ret Try.prog 43 [.agg (Array.mk [.slice a0 n1 n2, .slice a3 n4 n5])]
 (M ++ [AObj.cells [.slice p00 p00n p00c, .slice p01 p01n p01c] 2 Mode.live])
 (.tuple (Array.mk [.slice a6 n7 n8, .int .i64 i9, .bool b10])) M11 ∧
 K (.bool b10) M11) :
 Held (wpRet Try.prog 21 true [] [.agg (Array.mk [.slice p00 p00n p00c, .slice p01 p01n p01c])] M K) := held_of (by kernel_rfl) h
theorem w22 {p00 : Option Addr} {p00n p00c : Nat} {p01 : Option Addr} {p01n p01c : Nat} {p1 : Int} {M : Mem} {K : Value → Mem → Prop} (h : ∃ (a0 : Option Addr),
 ∃ (n1 : Nat),
 ∃ (n2 : Nat),
 ∃ (a3 : Option Addr),
 ∃ (n4 : Nat),
 ∃ (n5 : Nat),
 rdVar Try.prog (M ++ [AObj.cells [.slice p00 p00n p00c, .slice p01 p01n p01c] 2 Mode.live]) 32 (List.length M) 0 =
 some (Value.agg (Array.mk [.slice a0 n1 n2, .slice a3 n4 n5])) ∧
 ∃ (a6 : Option Addr),
 ∃ (n7 : Nat),
 ∃ (n8 : Nat),
 ∃ (i9 : Int),
 ∃ (b10 : Bool),
 ∃ (M11 : Mem),
 Ret Try.prog 43 [.agg (Array.mk [.slice a0 n1 n2, .slice a3 n4 n5])]
 (M ++ [AObj.cells [.slice p00 p00n p00c, .slice p01 p01n p01c] 2 Mode.live])
 (.tuple (Array.mk [.slice a6 n7 n8, .int .i64 i9, .bool b10])) M11 ∧
 cnd (!b10) (K (.int .i64 (Int.ofNat 0)) M11)
 (cnd (!leF (Int.ofNat 0) p1) (K (.int .i64 (Int.ofNat 0)) M11)
 (cnd (leF (Int.ofNat n7) p1) (K (.int .i64 (Int.ofNat 0)) M11)
 (∃ (n12 : Nat),
 ∃ (n13 : Nat),
 idxA Try.prog 22 (.slice a6 n7 n8) (.int .i64 p1) = some (.pointer (some (.mk n12 n13 none))) ∧
 ∃ (i14 : Int), rdVar Try.prog M11 3 n12 n13 = some (.int .i64 i14) ∧ K (.int .i64 i14) M11)))) :
 Held (wpRet Try.prog 22 true [] [.agg (Array.mk [.slice p00 p00n p00c, .slice p01 p01n p01c]), .int .i64 p1] M K) := held_of (by kernel_rfl) h
theorem w23 {p00 : Option Addr} {p00n p00c : Nat} {p01 : Option Addr} {p01n p01c : Nat} {M : Mem} {K : Value → Mem → Prop} (h : ∃ (a0 : Option Addr),
 ∃ (n1 : Nat),
 ∃ (n2 : Nat),
 ∃ (a3 : Option Addr),
 ∃ (n4 : Nat),
 ∃ (n5 : Nat),
 rdVar Try.prog (M ++ [AObj.cells [.slice p00 p00n p00c, .slice p01 p01n p01c] 2 Mode.live]) 32 (List.length M) 0 =
 some (Value.agg (Array.mk [.slice a0 n1 n2, .slice a3 n4 n5])) ∧
 ∃ (a6 : Option Addr),
 ∃ (n7 : Nat),
 ∃ (n8 : Nat),
 ∃ (i9 : Int),
 ∃ (b10 : Bool),
 ∃ (M11 : Mem),
 Ret Try.prog 43 [.agg (Array.mk [.slice a0 n1 n2, .slice a3 n4 n5])]
 (M ++ [AObj.cells [.slice p00 p00n p00c, .slice p01 p01n p01c] 2 Mode.live])
 (.tuple (Array.mk [.slice a6 n7 n8, .int .i64 i9, .bool b10])) M11 ∧
 cnd (!b10) (K (.int .i64 (Int.ofNat 0)) M11) (K (.int .i64 i9) M11)) :
 Held (wpRet Try.prog 23 true [] [.agg (Array.mk [.slice p00 p00n p00c, .slice p01 p01n p01c])] M K) := held_of (by kernel_rfl) h

end Go.Proofs.YtabkcbaknjenmaaAM

/-
  THE NODE LAWS: rows are gone through from their ends.
-/
set_option linter.unusedVariables false
set_option linter.unusedSimpArgs false
namespace Go.Proofs.YtabkcbaknjenmaaAM
open Go Go.Proofs
set_option maxRecDepth 100000
set_option maxHeartbeats 4000000

theorem back_ret (a : Option Addr) (n c : Nat) (M : Mem) : Ret Try.prog 96 [.slice a n c] M (.func (.func 108) ⟨[]⟩ ⟨[.pointer (some ⟨M.length, 0, none⟩)]⟩) (M ++ [.cells [.slice a n c] 1 .live]) :=
  Ret.wpToH hP (w96 (.inl ⟨_, _, _, Ret.wpToH hP (w105 ⟨rfl, rfl⟩), rfl, rfl⟩))

/-- All rounds, from the row's end. -/
theorem iter_ret {L x c : Nat} {a : Option Addr} {l : List Int} (hlen : l.length < 4611686018427387904) (J : Nat → Mem → Prop) (R : Mem → Prop)
    (hJ : ∀ j M, J j M → rdVar Try.prog M 22 x 0 = some (.slice a l.length c) ∧ Row M a (ints l))
    (rnd : ∀ j M (h : j < l.length), J j M → ∃ b M', Rd Try.prog L [.int .i64 (Int.ofNat (l.length - 1 - j)), .int .i64 (l[l.length - 1 - j]'(by omega))] M b M' ∧ (match b with | true => J (j + 1) M' | false => R M'))
    {M : Mem} (h0 : J 0 M) : ∃ M', Ret Try.prog 108 [.func (.yield L) ⟨[]⟩ ⟨[]⟩, .pointer (some ⟨x, 0, none⟩)] M undef M' ∧ (J l.length M' ∨ R M') := by
  have key := Ret.wpH hP (K := fun v M' => v = undef ∧ (J l.length M' ∨ R M')) (w108 (p0 := L) (c0 := x) (M := M) ⟨_, _, _, (hJ _ _ h0).1, fun t0 hT => by
    have := loop108_0 (Inv := fun n t M1 => ∃ j, t = (n : Int) - 1 ∧ j + n = l.length ∧ J j M1) (R0 := fun M1 => J l.length M1) (R1 := R) (fun n t M1 hI => by
      obtain ⟨j, rfl, hj, hJ1⟩ := hI
      refine cnd_of (fun hge => ?_) (fun hlt => ?_)
      · have hn : 0 < n := by
          have := leF_t.1 hge
          have h0 : Int.ofNat 0 = 0 := rfl
          omega
        obtain ⟨y, o, q1, q2⟩ := ints_at (hJ _ _ hJ1).2 (k := n - 1) (by omega) (c := c) (i := (n : Int) - 1) (by show _ = ((n - 1 : Nat) : Int); omega)
        obtain ⟨b, M', r1, r2⟩ := rnd j M1 (by omega) hJ1
        have e : l.length - 1 - j = n - 1 := by omega
        have e2 : Int.ofNat (n - 1) = (n : Int) - 1 := by show ((n - 1 : Nat) : Int) = _; omega
        simp only [e, e2] at r1
        refine ⟨_, _, _, (hJ _ _ hJ1).1, _, _, q1, _, q2, b, M', r1, ?_⟩
        cases b with
        | false => exact cnd_t r2
        | true =>
          refine cnd_f ⟨n - 1, by omega, j + 1, ?_, by omega, r2⟩
          have : Int.sub ((n : Int) - 1) (Int.ofNat 1) = ((n - 1 : Nat) : Int) - 1 := by show (n : Int) - 1 - 1 = _; omega
          rw [this]
          rcases Nat.eq_zero_or_pos (n - 1) with h | h
          · rw [h]; rfl
          · have e3 : ((n - 1 : Nat) : Int) - 1 = Int.ofNat (n - 2) := by show _ = ((n - 2 : Nat) : Int); omega
            rw [e3]
            exact wrap64 (by omega) (by show ((n - 2 : Nat) : Int) < _; omega)
      · have hn : n = 0 := by
          have := leF_f.1 hlt
          have h0 : Int.ofNat 0 = 0 := rfl
          omega
        have : j = l.length := by omega
        subst this; exact hJ1) (n := l.length) (d := []) (rc := false) ⟨0, by
          rcases Nat.eq_zero_or_pos l.length with h | h
          · rw [h]; rfl
          · rw [sub64 h hlen]; show ((l.length - 1 : Nat) : Int) = _; omega, by omega, h0⟩ hT
    exact this.imp (fun ⟨M', h1, h2⟩ => ⟨M', h1, fun _ => ⟨rfl, .inl h2⟩⟩) (fun ⟨M', h1, h2⟩ => ⟨M', h1, fun _ => ⟨rfl, .inr h2⟩⟩)⟩)
  obtain ⟨v, M', h1, rfl, h2⟩ := key
  exact ⟨M', h1, h2⟩

theorem walks108 : walksIn Try.prog 108 = true := by kernel_rfl
/-- A range over what back gives. -/
theorem rangeBack {f : FuncId} {p : List Nat} {k : Tmp} {ps : Array Tmp} (hc : codeOf Try.prog f p = .rangeFunc (.tmp k) ps (codeOf Try.prog f (p ++ [0])) (codeOf Try.prog f (p ++ [1]))) {t : List Value} {d : List ADef} {M : Mem} {rc : Bool} {x : Nat}
    (hf : t.getD k undef = .func (.func 108) ⟨[]⟩ ⟨[.pointer (some ⟨x, 0, none⟩)]⟩) {c : Nat} {a : Option Addr} {l : List Int} (hlen : l.length < 4611686018427387904) (J : Nat → Mem → Prop) (R : Mem → Prop)
    (hJ : ∀ j M, J j M → rdVar Try.prog M 22 x 0 = some (.slice a l.length c) ∧ Row M a (ints l))
    (rnd : ∀ j M1 (h : j < l.length), J j M1 → ∃ b M', Rd Try.prog (M.length + 1) [.int .i64 (Int.ofNat (l.length - 1 - j)), .int .i64 (l[l.length - 1 - j]'(by omega))] M1 b M' ∧ (match b with | true => J (j + 1) M' | false => R M'))
    (h0 : J 0 (M ++ [.defers false, rfO Try.prog .ready none f p t ps M.length]))
    (e1 : ∀ M', J l.length M' → M'[M.length + 1]? = some (rfO Try.prog .ready none f p t ps M.length)) (e2 : ∀ M', R M' → M'[M.length + 1]? = some (rfO Try.prog .done (some .ret) f p t ps M.length)) :
    (∃ M2, J l.length M2 ∧ Lp Try.prog (.fn f) p ⟨t, d, M, rc⟩ .normal ⟨t, .mark M.length :: d, M2.set (M.length + 1) (rfO Try.prog .exhausted none f p t ps M.length), rc⟩) ∨
    (∃ M2, R M2 ∧ Lp Try.prog (.fn f) p ⟨t, d, M, rc⟩ .ret ⟨t, .mark M.length :: d, M2.set (M.length + 1) (rfO Try.prog .exhausted (some .ret) f p t ps M.length), rc⟩) := by
  obtain ⟨M2, h1, h2⟩ := iter_ret (c := c) (a := a) hlen J R hJ rnd h0
  rcases h2 with h2 | h2
  · exact .inl ⟨M2, h2, range_lp hc rfl hf walks108 h1 (b := true) (e1 _ h2)⟩
  · exact .inr ⟨M2, h2, range_lp hc rfl hf walks108 h1 (b := false) (e2 _ h2)⟩

end Go.Proofs.YtabkcbaknjenmaaAM

/-
  THE NODE LAWS: are all nodes in defs, one behind the other?
-/
set_option linter.unusedVariables false
set_option linter.unusedSimpArgs false
namespace Go.Proofs.YtabkcbaknjenmaaAM
open Go Go.Proofs
set_option maxRecDepth 100000
set_option maxHeartbeats 4000000

theorem getA (M : Mem) (G : List AObj) (k : Nat) : (M ++ G)[M.length + k]? = G[k]? := by
  rw [List.getElem?_append_right (by omega)]; congr 1; omega
theorem setA (M : Mem) (G : List AObj) (k : Nat) (o : AObj) : List.set (M ++ G) (M.length + k) o = M ++ G.set k o := by
  rw [List.set_append_right _ _ (by omega)]; congr 2; omega
theorem atA {M : Mem} {G : List AObj} (k : Nat) {vs : List Value} {u : Nat} (h : G[k]? = some (.cells vs u .live)) : At (M ++ G) (M.length + k) vs := at_of (by rw [getA]; exact h)
theorem wrA {M : Mem} {G : List AObj} (k : Nat) {v w : Value} (h : G[k]? = some (.cells [v] 1 .live)) (h1 : w.oneCell' = true) : wrCells (M ++ G) (M.length + k) 0 [w] = some (M ++ G.set k (.cells [w] 1 .live)) := by
  rw [wrCells_at (by rw [getA]; exact h) (by simp) (by simp [h1]), setA]; rfl
/-- All in defs, from the last one on. -/
def whK (nds : List Nd) (l : List Int) : List Int → Int → Option Int
  | [], e => some e
  | d :: ds, e => match nds[d.toNat]?, l[d.toNat]? with
    | some n, some z => if 0 ≤ d ∧ d = e - 1 ∧ n.kind = 13 then whK nds l ds (e - z) else none
    | _, _ => none
def wholeS (nds : List Nd) (l ds : List Int) : Bool := whK nds l ds.reverse nds.length == some 0
def SzOk (l : List Int) : Prop := ∀ (i : Nat) (z : Int), l[i]? = some z → 1 ≤ z ∧ z ≤ (i : Int) + 1
theorem rev_drop {l : List Int} {j : Nat} (h : j < l.length) : l.reverse.drop j = (l[l.length - 1 - j]'(by omega)) :: l.reverse.drop (j + 1) := by
  rw [List.drop_eq_getElem_cons (by simpa using h)]
  congr 1
  rw [List.getElem_reverse]
theorem row_of_slice {M : Mem} {sz n c : Nat} {a : Option Addr} {l : List Value} (h : SliceR M sz a n c l) : Row M a l := h.row

def o74 (na : Option Addr) (nn nc : Nat) (da : Option Addr) (dn dc : Nat) (sa : Option Addr) (sn sc : Nat) (e : Int) (r : List AObj) : List AObj :=
  .cells [.slice na nn nc, .slice da dn dc] 2 .live :: .cells [.slice sa sn sc] 1 .live :: .cells [.bool false] 1 .live :: .cells [.int .i64 e] 1 .live :: .cells [.slice da dn dc] 1 .live :: r
theorem whK_no {nds : List Nd} {l ds : List Int} {x e : Int} (h : ¬ (0 ≤ x ∧ x = e - 1 ∧ ∀ n, nds[x.toNat]? = some n → n.kind = 13)) : whK nds l (x :: ds) e = none := by
  unfold whK
  split
  · rename_i n z hn hz
    rw [if_neg]
    rintro ⟨a, b, c⟩
    exact h ⟨a, b, fun n' hn' => by rw [hn] at hn'; cases hn'; exact c⟩
  · rfl
theorem whK_yes {nds : List Nd} {l ds : List Int} {x e z : Int} {n : Nd} (h0 : 0 ≤ x) (h1 : x = e - 1) (hn : nds[x.toNat]? = some n) (hz : l[x.toNat]? = some z) (hk : n.kind = 13) : whK nds l (x :: ds) e = whK nds l ds (e - z) := by
  rw [whK, hn, hz]; dsimp only; rw [if_pos ⟨h0, h1, hk⟩]

theorem whole_range {M : Mem} {na da sa : Option Addr} {nc dc sc : Nat} {cs : List Value} {nds : List Nd} {ds l : List Int} (hN : SliceR M 5 na nds.length nc cs) (hR : NdR M nds cs) (hD : SliceR M 1 da ds.length dc (ints ds)) (hS : SliceR M 1 sa l.length sc (ints l)) (hll : l.length = nds.length) (hl : SzOk l) (hn : nds.length ≤ 1000000) (hd : ds.length ≤ 1000000)
    {t0 : List Value} (hT : TIn 41 [(2, .pointer (some ⟨M.length, 0, none⟩)), (3, .pointer (some ⟨M.length + 1, 0, none⟩)), (4, .pointer (some ⟨M.length + 2, 0, none⟩)), (5, .pointer (some ⟨M.length + 3, 0, none⟩)), (13, .func (.func 108) ⟨[]⟩ ⟨[.pointer (some ⟨M.length + 4, 0, none⟩)]⟩)] t0)
    {d : List ADef} {rc : Bool} {M5 : Mem} (h5 : M5 = M ++ o74 na nds.length nc da ds.length dc sa l.length sc (Int.ofNat nds.length) []) :
    (∃ M2, (∃ e, whK nds l ds.reverse nds.length = some e ∧ M2 = M ++ o74 na nds.length nc da ds.length dc sa l.length sc e [.defers false, rfO Try.prog .exhausted none 74 [1, 1, 0, 1, 0] t0 ⟨[14, 15]⟩ M5.length]) ∧ Lp Try.prog (.fn 74) [1, 1, 0, 1, 0] ⟨t0, d, M5, rc⟩ .normal ⟨t0, .mark M5.length :: d, M2, rc⟩) ∨
    (∃ M2, (∃ e, whK nds l ds.reverse nds.length = none ∧ M2 = M ++ o74 na nds.length nc da ds.length dc sa l.length sc e [.defers false, rfO Try.prog .exhausted (some .ret) 74 [1, 1, 0, 1, 0] t0 ⟨[14, 15]⟩ M5.length]) ∧ Lp Try.prog (.fn 74) [1, 1, 0, 1, 0] ⟨t0, d, M5, rc⟩ .ret ⟨t0, .mark M5.length :: d, M2, rc⟩) := by
  have hl5 : M5.length = M.length + 5 := by rw [h5]; simp [o74]
  have hk : ∀ G : List AObj, Keep M (M ++ G) := fun G => .app M G
  have hset : ∀ (e : Int) (o o' : AObj), List.set (M ++ o74 na nds.length nc da ds.length dc sa l.length sc e [.defers false, o]) (M5.length + 1) o' = M ++ o74 na nds.length nc da ds.length dc sa l.length sc e [.defers false, o'] := by
    intro e o o'
    rw [hl5, Nat.add_assoc, setA]; rfl
  have key := rangeBack (f := 74) (p := [1, 1, 0, 1, 0]) (k := 13) (ps := ⟨[14, 15]⟩) (by kernel_rfl) (t := t0) (d := d) (M := M5) (rc := rc) (x := M.length + 4) hT.2.2.2.2.2.1 (a := da) (c := dc) (l := ds) (by omega)
    (fun j M1 => ∃ e : Int, whK nds l (ds.reverse.drop j) e = whK nds l ds.reverse nds.length ∧ 0 ≤ e ∧ e ≤ nds.length ∧ M1 = M ++ o74 na nds.length nc da ds.length dc sa l.length sc e [.defers false, rfO Try.prog .ready none 74 [1, 1, 0, 1, 0] t0 ⟨[14, 15]⟩ M5.length])
    (fun M1 => ∃ e : Int, whK nds l ds.reverse nds.length = none ∧ M1 = M ++ o74 na nds.length nc da ds.length dc sa l.length sc e [.defers false, rfO Try.prog .done (some .ret) 74 [1, 1, 0, 1, 0] t0 ⟨[14, 15]⟩ M5.length])
    (by
      rintro j M1 ⟨e, _, _, _, rfl⟩
      exact ⟨(atA 4 rfl).rd k22 (o := 0) rfl, (hD.keep (hk _)).row⟩)
    (by
      rintro j M1 hj ⟨e, he, h0, h1, rfl⟩
      obtain ⟨b, M2, h2, h3⟩ := round74_0 (ut2 := M.length) (ut2o := 0) (ut3 := M.length + 1) (ut3o := 0) (ut4 := M.length + 2) (ut4o := 0) (ut5 := M.length + 3) (ut5o := 0) hT (L := M5.length + 1) (df := M5.length) (i := Int.ofNat (ds.length - 1 - j)) (x := ds[ds.length - 1 - j]'(by omega))
        (M := M ++ o74 na nds.length nc da ds.length dc sa l.length sc e [.defers false, rfO Try.prog .ready none 74 [1, 1, 0, 1, 0] t0 ⟨[14, 15]⟩ M5.length])
        (K := fun b M2 => match b with
          | true => ∃ e' : Int, whK nds l (ds.reverse.drop (j + 1)) e' = whK nds l ds.reverse nds.length ∧ 0 ≤ e' ∧ e' ≤ nds.length ∧ M2 = M ++ o74 na nds.length nc da ds.length dc sa l.length sc e' [.defers false, rfO Try.prog .busy none 74 [1, 1, 0, 1, 0] t0 ⟨[14, 15]⟩ M5.length]
          | false => whK nds l ds.reverse nds.length = none ∧ M2 = M ++ o74 na nds.length nc da ds.length dc sa l.length sc e [.defers false, rfO Try.prog .busy none 74 [1, 1, 0, 1, 0] t0 ⟨[14, 15]⟩ M5.length])
        (by rw [hl5, Nat.add_assoc, getA]; rfl)
        (by
          intro b M2 h
          cases b with
          | true => obtain ⟨e', _, _, _, rfl⟩ := h; rw [hl5, Nat.add_assoc, getA]; rfl
          | false => obtain ⟨_, rfl⟩ := h; rw [hl5, Nat.add_assoc, getA]; rfl)
        (by
          rintro Mb rfl
          refine ⟨rfl, ?_⟩
          rw [hset]
          have er := rev_drop hj
          generalize (ds[ds.length - 1 - j]'(by omega)) = x at *
          rw [er] at he
          have hno : ∀ {K : Mem → Prop}, ¬ (0 ≤ x ∧ x = e - 1 ∧ ∀ n, nds[x.toNat]? = some n → n.kind = 13) → (∀ M2, whK nds l ds.reverse nds.length = none ∧ M2 = M ++ o74 na nds.length nc da ds.length dc sa l.length sc e [.defers false, rfO Try.prog .busy none 74 [1, 1, 0, 1, 0] t0 ⟨[14, 15]⟩ M5.length] → K M2) →
              ∃ M0, wrCells (M ++ o74 na nds.length nc da ds.length dc sa l.length sc e [.defers false, rfO Try.prog .busy none 74 [1, 1, 0, 1, 0] t0 ⟨[14, 15]⟩ M5.length]) (M.length + 2) 0 [.bool false] = some M0 ∧ K M0 := fun h hK =>
            ⟨_, wrA 2 rfl rfl, hK _ ⟨by rw [← he]; exact whK_no h, rfl⟩⟩
          refine cnd_of (fun hx => ?_) (fun hx => ?_)
          · have hx : x < 0 := by
              have : leF (Int.ofNat 0) x = false := by simpa using hx
              exact leF_f.1 this
            exact hno (fun h => by omega) fun _ h => h
          have hx0 : 0 ≤ x := by
            have : leF (Int.ofNat 0) x = true := by simpa using hx
            exact leF_t.1 this
          refine ⟨_, (atA 3 rfl).rd k3 (o := 0) rfl, ?_⟩
          by_cases he0 : e = 0
          · subst he0
            refine cnd_t' ?_ (hno (fun h => by omega) fun _ h => h)
            have : wrapF .i64 (Int.sub 0 (Int.ofNat 1)) = -1 := rfl
            rw [this]
            have : eqF x (-1) = false := eqF_f.2 (by omega)
            rw [this]; rfl
          have ew : wrapF .i64 (Int.sub e (Int.ofNat 1)) = e - 1 := by
            have : Int.sub e (Int.ofNat 1) = e - 1 := rfl
            rw [this]
            exact wrap64 (by omega) (by omega)
          rw [ew]
          refine cnd_of (fun hx2 => ?_) (fun hx2 => ?_)
          · have : eqF x (e - 1) = false := by simpa using hx2
            exact hno (fun h => eqF_f.1 this h.2.1) fun _ h => h
          have hxe : x = e - 1 := by
            have : eqF x (e - 1) = true := by simpa using hx2
            exact eqF_t.1 this
          have hlt : x.toNat < nds.length := by omega
          have hxi : x = Int.ofNat x.toNat := (Int.toNat_of_nonneg hx0).symm
          obtain ⟨y, o, ka, kc, u1, u2, u3, u4, u5⟩ := node_at (hN.keep (hk (o74 na nds.length nc da ds.length dc sa l.length sc e [.defers false, rfO Try.prog .busy none 74 [1, 1, 0, 1, 0] t0 ⟨[14, 15]⟩ M5.length]))) (hR.keep (hk _)) hlt hxi
          have hgn : nds[x.toNat]? = some nds[x.toNat] := List.getElem?_eq_getElem hlt
          refine ⟨_, _, _, (atA 0 rfl).rd k30 (o := 0) rfl, _, _, u1, _, rd_of_cell k3 (u3 0 _ rfl), ?_⟩
          refine cnd_of (fun hx3 => ?_) (fun hx3 => ?_)
          · have : eqF nds[x.toNat].kind (Int.ofNat 13) = false := by simpa using hx3
            exact hno (fun h => eqF_f.1 this (h.2.2 _ hgn)) fun _ h => h
          have hkd : nds[x.toNat].kind = 13 := by
            have : eqF nds[x.toNat].kind (Int.ofNat 13) = true := by simpa using hx3
            exact eqF_t.1 this
          have hlt2 : x.toNat < l.length := by omega
          have hgl : l[x.toNat]? = some l[x.toNat] := List.getElem?_eq_getElem hlt2
          obtain ⟨y2, o2, v1, v2⟩ := ints_at (hS.keep (hk (o74 na nds.length nc da ds.length dc sa l.length sc e [.defers false, rfO Try.prog .busy none 74 [1, 1, 0, 1, 0] t0 ⟨[14, 15]⟩ M5.length]))).row hlt2 (c := sc) hxi
          have hz := hl _ _ hgl
          refine ⟨_, (atA 3 rfl).rd k3 (o := 0) rfl, _, _, _, (atA 1 rfl).rd k22 (o := 0) rfl, _, _, v1, _, v2, _, wrA 3 rfl rfl, trivial, e - l[x.toNat], ?_, by omega, by omega, ?_⟩
          · rw [← he]; exact (whK_yes hx0 hxe hgn hgl hkd).symm
          · have e0 : Int.sub e l[x.toNat] = e - l[x.toNat] := rfl
            rw [e0, show wrapF .i64 (e - l[x.toNat]) = e - l[x.toNat] from wrap64 (by omega) (by omega)]; rfl)
      refine ⟨b, _, h3, ?_⟩
      cases b with
      | true =>
        obtain ⟨e', g1, g2, g3, rfl⟩ := h2
        exact ⟨e', g1, g2, g3, by rw [hl5, Nat.add_assoc, setA]; rfl⟩
      | false =>
        obtain ⟨g1, rfl⟩ := h2
        exact ⟨e, g1, by rw [hl5, Nat.add_assoc, setA]; rfl⟩)
    ⟨nds.length, rfl, by omega, by omega, by rw [h5, List.append_assoc]; rfl⟩
    (by
      rintro M1 ⟨e, _, _, _, rfl⟩
      rw [hl5, Nat.add_assoc, getA]; rfl)
    (by
      rintro M1 ⟨e, _, rfl⟩
      rw [hl5, Nat.add_assoc, getA]; rfl)
  rcases key with ⟨M2, ⟨e, h1, _, _, rfl⟩, h2⟩ | ⟨M2, ⟨e, h1, rfl⟩, h2⟩
  · refine .inl ⟨_, ⟨e, ?_, ?_⟩, h2⟩
    · rw [← h1, List.drop_eq_nil_of_le (by simp)]; rfl
    · rw [hl5, Nat.add_assoc, setA]; rfl
  · refine .inr ⟨_, ⟨e, h1, ?_⟩, h2⟩
    rw [hl5, Nat.add_assoc, setA]; rfl

theorem whole_ret {M : Mem} {v : Value} {nds : List Nd} {ds l : List Int} (hT : TreeR M v nds ds) {sa : Option Addr} {sc : Nat} (hS : SliceR M 1 sa l.length sc (ints l)) (hll : l.length = nds.length) (hl : SzOk l) (hn : nds.length ≤ 1000000) (hd : ds.length ≤ 1000000) :
    ∃ M', Ret Try.prog 74 [v, .slice sa l.length sc] M (.bool (wholeS nds l ds)) M' ∧ Keep M M' := by
  obtain ⟨na, nc, da, dc, cs, rfl, hN, hR, hD⟩ := hT
  have key := Ret.wpH hP (K := fun v M' => v = .bool (wholeS nds l ds) ∧ Keep M M') (w74 (p00 := na) (p00n := nds.length) (p00c := nc) (p01 := da) (p01n := ds.length) (p01c := dc) (p1 := sa) (p1n := l.length) (p1c := sc) (M := M) ?_)
  · obtain ⟨v, M', h1, rfl, h2⟩ := key
    exact ⟨M', h1, h2⟩
  simp only [List.append_assoc, List.cons_append, List.nil_append, List.length_append, List.length_cons, List.length_nil, Nat.zero_add, Nat.reduceAdd]
  refine ⟨_, _, _, (atA 0 rfl).rd k30 (o := 0) rfl, _, wrA 3 rfl rfl, _, _, _, (atA 0 rfl).rd k22 (o := 1) rfl, .inl ⟨_, _, _, back_ret _ _ _ _, fun t0 hT => ?_⟩⟩
  have hm5 : (M ++ List.set [AObj.cells [.slice na nds.length nc, .slice da ds.length dc] 2 Mode.live, AObj.cells [.slice sa l.length sc] 1 Mode.live, AObj.cells [.bool false] 1 Mode.live, AObj.cells [.int .i64 (Int.ofNat 0)] 1 Mode.live] 3 (AObj.cells [.int .i64 (Int.ofNat nds.length)] 1 Mode.live)) ++ [AObj.cells [.slice da ds.length dc] 1 .live] = M ++ o74 na nds.length nc da ds.length dc sa l.length sc (Int.ofNat nds.length) [] := by
    rw [List.append_assoc]; rfl
  have hl4 : (M ++ List.set [AObj.cells [.slice na nds.length nc, .slice da ds.length dc] 2 Mode.live, AObj.cells [.slice sa l.length sc] 1 Mode.live, AObj.cells [.bool false] 1 Mode.live, AObj.cells [.int .i64 (Int.ofNat 0)] 1 Mode.live] 3 (AObj.cells [.int .i64 (Int.ofNat nds.length)] 1 Mode.live)).length = M.length + 4 := by simp
  rw [hl4] at hT
  generalize hM5 : (M ++ List.set [AObj.cells [.slice na nds.length nc, .slice da ds.length dc] 2 Mode.live, AObj.cells [.slice sa l.length sc] 1 Mode.live, AObj.cells [.bool false] 1 Mode.live, AObj.cells [.int .i64 (Int.ofNat 0)] 1 Mode.live] 3 (AObj.cells [.int .i64 (Int.ofNat nds.length)] 1 Mode.live)) ++ [AObj.cells [.slice da ds.length dc] 1 .live] = M5 at *
  have hl5 : M5.length = M.length + 5 := by rw [hm5]; simp [o74]
  refine (whole_range hN hR hD hS hll hl hn hd hT (d := []) (rc := false) hm5).imp ?_ ?_
  · rintro ⟨M2, ⟨e, h1, rfl⟩, h2⟩
    have hw : wholeS nds l ds = eqF e (Int.ofNat 0) := by
      unfold wholeS
      rw [h1, eqF_eq]
      by_cases h : e = 0
      · subst h; rfl
      · have : (some e == some (0 : Int)) = false := by simp [h]
        rw [this]; exact (decide_eq_false h).symm
    refine ⟨_, h2, _, (atA 3 rfl).rd k3 (o := 0) rfl, _, wrA 2 rfl rfl, ?_, eqF e (Int.ofNat 0), ?_, ?_, ?_⟩
    · rw [hl5, getA]; rfl
    · rw [hl5, setA]; exact (atA 2 rfl).rd k4 (o := 0) rfl
    · rw [hw]
    · rw [hl5, setA]; exact .app _ _
  · rintro ⟨M2, ⟨e, h1, rfl⟩, h2⟩
    have hw : wholeS nds l ds = false := by
      unfold wholeS; rw [h1]; rfl
    refine ⟨_, h2, ?_, false, ?_, ?_, ?_⟩
    · rw [hl5, getA]; rfl
    · rw [hl5, setA]; exact (atA 2 rfl).rd k4 (o := 0) rfl
    · rw [hw]
    · rw [hl5, setA]; exact .app _ _

end Go.Proofs.YtabkcbaknjenmaaAM

/-
  THE NODE LAWS: the sizes of all nodes.
-/
set_option linter.unusedVariables false
set_option linter.unusedSimpArgs false
namespace Go.Proofs.YtabkcbaknjenmaaAM
open Go Go.Proofs
set_option maxRecDepth 100000
set_option maxHeartbeats 4000000

/-- A node's size, its kids gone through from the last one on. -/
def szK (l : List Int) (i : Int) : List Int → Int → Option Int
  | [], s => some s
  | k :: ks, s => match l[k.toNat]? with
    | some z => if 0 ≤ k ∧ k = i - s then szK l i ks (s + z) else none
    | none => none
def sizesG : List Nd → List Int → Option (List Int)
  | [], acc => some acc
  | n :: ns, acc => match szK acc acc.length n.kids.reverse 1 with
    | some s => sizesG ns (acc ++ [s])
    | none => none
theorem szK_no {l ks : List Int} {i x s : Int} (h : ¬ (0 ≤ x ∧ x = i - s)) : szK l i (x :: ks) s = none := by
  unfold szK
  split
  · rw [if_neg h]
  · rfl
theorem szK_yes {l ks : List Int} {i x s z : Int} (h0 : 0 ≤ x) (h1 : x = i - s) (hz : l[x.toNat]? = some z) : szK l i (x :: ks) s = szK l i ks (s + z) := by
  rw [szK, hz]; dsimp only; rw [if_pos ⟨h0, h1⟩]
theorem szK_bound {l : List Int} (hl : SzOk l) : ∀ {ks : List Int} {s r : Int}, szK l l.length ks s = some r → 1 ≤ s → s ≤ (l.length : Int) + 1 → 1 ≤ r ∧ r ≤ (l.length : Int) + 1
  | [], s, r, h, h1, h2 => by cases h; exact ⟨h1, h2⟩
  | k :: ks, s, r, h, h1, h2 => by
    rw [szK] at h
    split at h
    · rename_i z hz
      split at h
      · rename_i hk
        have := hl _ _ hz
        exact szK_bound hl h (by omega) (by omega)
      · simp at h
    · simp at h
theorem wrSame {M : Mem} {x : Nat} {v : Value} (h : M[x]? = some (.cells [v] 1 .live)) (h1 : v.oneCell' = true) : wrCells M x 0 [v] = some M := by
  rw [wrCells_at h (by simp) (by simp [h1])]
  congr 1
  have : splice [v] 0 [v] = [v] := rfl
  rw [this]
  apply List.ext_getElem?
  intro j
  rw [List.getElem?_set]
  split
  · rename_i e; subst e
    have := (List.getElem?_eq_some_iff.1 h).1
    rw [if_pos this, h]
  · rfl
def o73 (i : Int) (nv : List Value) (s : Int) (ka : Option Addr) (kn kc : Nat) (r : List AObj) : List AObj :=
  .cells [.int .i64 i] 1 .live :: .cells nv 5 .live :: .cells [.int .i64 s] 1 .live :: .cells [.slice ka kn kc] 1 .live :: r
abbrev P73 : List Nat := [1, 1, 0, 1, 0, 0, 1, 1, 0, 0, 1, 1, 0, 1, 0]

theorem sizes_range {B : Mem} {sa ka : Option Addr} {sc kc x2 x3 x4 : Nat} {nv : List Value} {l kids : List Int} (h2 : B[x2]? = some (.cells [.slice none 0 0] 1 .live)) (h3 : B[x3]? = some (.cells [.bool false] 1 .live)) (h4 : B[x4]? = some (.cells [.slice sa l.length sc] 1 .live))
    (hS : Row B sa (ints l)) (hK : SliceR B 1 ka kids.length kc (ints kids)) (hl : SzOk l) (hn : l.length ≤ 1000000) (hkn : kids.length ≤ 1000000)
    {t0 : List Value} (hT : TIn 48 [(2, .pointer (some ⟨x2, 0, none⟩)), (3, .pointer (some ⟨x3, 0, none⟩)), (4, .pointer (some ⟨x4, 0, none⟩)), (5, .pointer (some ⟨B.length, 0, none⟩)), (7, .pointer (some ⟨B.length + 2, 0, none⟩)), (24, .func (.func 108) ⟨[]⟩ ⟨[.pointer (some ⟨B.length + 3, 0, none⟩)]⟩)] t0)
    {d : List ADef} {rc : Bool} {M5 : Mem} (h5 : M5 = B ++ o73 l.length nv 1 ka kids.length kc []) :
    (∃ M2, (∃ e, szK l l.length kids.reverse 1 = some e ∧ M2 = B ++ o73 l.length nv e ka kids.length kc [.defers false, rfO Try.prog .exhausted none 73 P73 t0 ⟨[25, 26]⟩ M5.length]) ∧ Lp Try.prog (.fn 73) P73 ⟨t0, d, M5, rc⟩ .normal ⟨t0, .mark M5.length :: d, M2, rc⟩) ∨
    (∃ M2, (∃ e, szK l l.length kids.reverse 1 = none ∧ M2 = B ++ o73 l.length nv e ka kids.length kc [.defers false, rfO Try.prog .exhausted (some .ret) 73 P73 t0 ⟨[25, 26]⟩ M5.length]) ∧ Lp Try.prog (.fn 73) P73 ⟨t0, d, M5, rc⟩ .ret ⟨t0, .mark M5.length :: d, M2, rc⟩) := by
  have hl5 : M5.length = B.length + 4 := by rw [h5]; simp [o73]
  have hk : ∀ G : List AObj, Keep B (B ++ G) := fun G => .app B G
  have hset : ∀ (e : Int) (o o' : AObj), List.set (B ++ o73 l.length nv e ka kids.length kc [.defers false, o]) (M5.length + 1) o' = B ++ o73 l.length nv e ka kids.length kc [.defers false, o'] := by
    intro e o o'
    rw [hl5, Nat.add_assoc, setA]; rfl
  have key := rangeBack (f := 73) (p := P73) (k := 24) (ps := ⟨[25, 26]⟩) (by kernel_rfl) (t := t0) (d := d) (M := M5) (rc := rc) (x := B.length + 3) hT.2.2.2.2.2.2.1 (a := ka) (c := kc) (l := kids) (by omega)
    (fun j M1 => ∃ e : Int, szK l l.length (kids.reverse.drop j) e = szK l l.length kids.reverse 1 ∧ 1 ≤ e ∧ e ≤ (l.length : Int) + 1 ∧ M1 = B ++ o73 l.length nv e ka kids.length kc [.defers false, rfO Try.prog .ready none 73 P73 t0 ⟨[25, 26]⟩ M5.length])
    (fun M1 => ∃ e : Int, szK l l.length kids.reverse 1 = none ∧ M1 = B ++ o73 l.length nv e ka kids.length kc [.defers false, rfO Try.prog .done (some .ret) 73 P73 t0 ⟨[25, 26]⟩ M5.length])
    (by
      rintro j M1 ⟨e, _, _, _, rfl⟩
      exact ⟨(atA 3 rfl).rd k22 (o := 0) rfl, (hK.keep (hk _)).row⟩)
    (by
      rintro j M1 hj ⟨e, he, h0, h1, rfl⟩
      obtain ⟨b, M2, g2, g3⟩ := round73_1 (ut2 := x2) (ut2o := 0) (ut3 := x3) (ut3o := 0) (ut4 := x4) (ut4o := 0) (ut5 := B.length) (ut5o := 0) (ut7 := B.length + 2) (ut7o := 0) hT (L := M5.length + 1) (df := M5.length) (i := Int.ofNat (kids.length - 1 - j)) (x := kids[kids.length - 1 - j]'(by omega))
        (M := B ++ o73 l.length nv e ka kids.length kc [.defers false, rfO Try.prog .ready none 73 P73 t0 ⟨[25, 26]⟩ M5.length])
        (K := fun b M2 => match b with
          | true => ∃ e' : Int, szK l l.length (kids.reverse.drop (j + 1)) e' = szK l l.length kids.reverse 1 ∧ 1 ≤ e' ∧ e' ≤ (l.length : Int) + 1 ∧ M2 = B ++ o73 l.length nv e' ka kids.length kc [.defers false, rfO Try.prog .busy none 73 P73 t0 ⟨[25, 26]⟩ M5.length]
          | false => szK l l.length kids.reverse 1 = none ∧ M2 = B ++ o73 l.length nv e ka kids.length kc [.defers false, rfO Try.prog .busy none 73 P73 t0 ⟨[25, 26]⟩ M5.length])
        (by rw [hl5, Nat.add_assoc, getA]; rfl)
        (by
          intro b M2 h
          cases b with
          | true => obtain ⟨e', _, _, _, rfl⟩ := h; rw [hl5, Nat.add_assoc, getA]; rfl
          | false => obtain ⟨_, rfl⟩ := h; rw [hl5, Nat.add_assoc, getA]; rfl)
        (by
          rintro Mb rfl
          refine ⟨rfl, ?_⟩
          rw [hset]
          have er := rev_drop hj
          generalize (kids[kids.length - 1 - j]'(by omega)) = x at *
          rw [er] at he
          generalize hq : rfO Try.prog .busy none 73 P73 t0 ⟨[25, 26]⟩ M5.length = lp at *
          have hno : ∀ {K : Mem → Prop}, ¬ (0 ≤ x ∧ x = (l.length : Int) - e) → (∀ M2, szK l l.length kids.reverse 1 = none ∧ M2 = B ++ o73 l.length nv e ka kids.length kc [.defers false, lp] → K M2) →
              ∃ M0, wrCells (B ++ o73 l.length nv e ka kids.length kc [.defers false, lp]) x2 0 [.slice none 0 0] = some M0 ∧ ∃ M1, wrCells M0 x3 0 [.bool false] = some M1 ∧ K M1 := fun h hK =>
            ⟨_, wrSame ((hk _).get h2) rfl, _, wrSame ((hk _).get h3) rfl, hK _ ⟨by rw [← he]; exact szK_no h, rfl⟩⟩
          refine cnd_of (fun hx => ?_) (fun hx => ?_)
          · have hx : x < 0 := by
              have : leF (Int.ofNat 0) x = false := by simpa using hx
              exact leF_f.1 this
            exact hno (fun h => by omega) fun _ h => h
          have hx0 : 0 ≤ x := by
            have : leF (Int.ofNat 0) x = true := by simpa using hx
            exact leF_t.1 this
          refine ⟨_, (atA 0 rfl).rd k3 (o := 0) rfl, _, (atA 2 rfl).rd k3 (o := 0) rfl, ?_⟩
          have ew : wrapF .i64 (Int.sub (l.length : Int) e) = (l.length : Int) - e := by
            have : Int.sub (l.length : Int) e = (l.length : Int) - e := rfl
            rw [this]
            exact wrap64 (by omega) (by omega)
          rw [ew]
          refine cnd_of (fun hx2 => ?_) (fun hx2 => ?_)
          · have : eqF x ((l.length : Int) - e) = false := by simpa using hx2
            exact hno (fun h => eqF_f.1 this h.2) fun _ h => h
          have hxe : x = (l.length : Int) - e := by
            have : eqF x ((l.length : Int) - e) = true := by simpa using hx2
            exact eqF_t.1 this
          have hlt : x.toNat < l.length := by omega
          have hxi : x = Int.ofNat x.toNat := (Int.toNat_of_nonneg hx0).symm
          have hgl : l[x.toNat]? = some l[x.toNat] := List.getElem?_eq_getElem hlt
          obtain ⟨y2, o2, v1, v2⟩ := ints_at ((hk (o73 l.length nv e ka kids.length kc [.defers false, lp])).row hS) hlt (c := sc) hxi
          have hz := hl _ _ hgl
          refine ⟨_, (atA 2 rfl).rd k3 (o := 0) rfl, _, _, _, (at_of ((hk _).get h4)).rd k22 (o := 0) rfl, _, _, v1, _, v2, _, wrA 2 rfl rfl, trivial, e + l[x.toNat], ?_, by omega, by omega, ?_⟩
          · rw [← he]; exact (szK_yes hx0 hxe hgl).symm
          · have e0 : Int.add e l[x.toNat] = e + l[x.toNat] := rfl
            rw [e0, show wrapF .i64 (e + l[x.toNat]) = e + l[x.toNat] from wrap64 (by omega) (by omega)]; rfl)
      refine ⟨b, _, g3, ?_⟩
      cases b with
      | true =>
        obtain ⟨e', q1, q2, q3, rfl⟩ := g2
        exact ⟨e', q1, q2, q3, by rw [hl5, Nat.add_assoc, setA]; rfl⟩
      | false =>
        obtain ⟨q1, rfl⟩ := g2
        exact ⟨e, q1, by rw [hl5, Nat.add_assoc, setA]; rfl⟩)
    ⟨1, rfl, by omega, by omega, by rw [h5, List.append_assoc]; rfl⟩
    (by
      rintro M1 ⟨e, _, _, _, rfl⟩
      rw [hl5, Nat.add_assoc, getA]; rfl)
    (by
      rintro M1 ⟨e, _, rfl⟩
      rw [hl5, Nat.add_assoc, getA]; rfl)
  rcases key with ⟨M2, ⟨e, h1, _, _, rfl⟩, h2⟩ | ⟨M2, ⟨e, h1, rfl⟩, h2⟩
  · refine .inl ⟨_, ⟨e, ?_, ?_⟩, h2⟩
    · rw [← h1, List.drop_eq_nil_of_le (by simp)]; rfl
    · rw [hl5, Nat.add_assoc, setA]; rfl
  · refine .inr ⟨_, ⟨e, h1, ?_⟩, h2⟩
    rw [hl5, Nat.add_assoc, setA]; rfl

end Go.Proofs.YtabkcbaknjenmaaAM

/-
  THE NODE LAWS: the sizes of all nodes: the whole.
-/
set_option linter.unusedVariables false
set_option linter.unusedSimpArgs false
namespace Go.Proofs.YtabkcbaknjenmaaAM
open Go Go.Proofs
set_option maxRecDepth 100000
set_option maxHeartbeats 4000000

theorem make22c {k : Nat} (hk : k ≤ 1000000) (M : Mem) : makeA Try.prog M 22 (.int .i64 (Int.ofNat 0)) (.int .i64 (Int.ofNat k)) = some (.slice (some ⟨M.length, 0, none⟩) 0 k, M ++ [.cells (List.replicate k (.int .i64 0)) 1 .live]) := by
  simp only [makeA, el22, sz3, by3, ze3, Option.bind_some]
  rw [if_pos ⟨Int.le_refl _, Int.natCast_nonneg k, by show (8 : Int) * (k : Int) ≤ _; omega, by show (k : Int) ≤ _; omega, rfl⟩]
  show some (Value.slice _ 0 k, M ++ [AObj.cells (madeCells #[.int .i64 0] (k * 1)).toList 1 .live]) = _
  rw [Nat.mul_one, made1]
theorem append_in {M : Mem} {b n c : Nat} {vs : List Value} {v : Value} {x : Value} (h : M[b]? = some (.cells vs 1 .live)) (hs : srcA Try.prog M 1 x = some (1, [v])) (h1 : v.oneCell' = true) (hc : c ≠ capU) (hn : n + 1 ≤ c) (hv : n + 1 ≤ vs.length) :
    appendA Try.prog M 22 22 (.slice (some ⟨b, 0, none⟩) n c) x = some (.slice (some ⟨b, 0, none⟩) (n + 1) c, M.set b (.cells (splice vs n [v]) 1 .live)) := by
  have k22s : kindT Try.prog 22 = some .slice := by kernel_rfl
  simp only [appendA, el22, sz3, by3, ze3, k22s, Option.bind_some, hs]
  have e : (Value.int .i64 0).cells = #[.int .i64 0] := rfl
  rw [if_neg (by rw [e]; decide), if_neg (by decide), if_pos ⟨hc, hn⟩]
  rw [Nat.zero_add, Nat.mul_one, wrCells_at h (by simpa using hv) (by simp [h1])]
  rfl
theorem wrAll {B : Mem} {G : List AObj} (k : Nat) {vs new : List Value} {u : Nat} (h : G[k]? = some (.cells vs u .live)) (hl : new.length = vs.length) (h1 : new.all Value.oneCell' = true) : wrCells (B ++ G) (B.length + k) 0 new = some (B ++ G.set k (.cells new u .live)) := by
  rw [wrCells_at (by rw [getA]; exact h) (by omega) h1, setA]
  have : splice vs 0 new = new := by
    unfold splice
    rw [List.take_zero, List.nil_append, List.drop_eq_nil_of_le (by omega), List.append_nil]
  rw [this]
/-- The marks that so many ranges have left. -/
def marks (b : Nat) : Nat → List ADef
  | 0 => []
  | k + 1 => .mark (b + (7 * k + 4)) :: marks b k
def MarkG (G : List AObj) (k : Nat) : Prop := ∀ j, j < k → G[7 * j + 4]? = some (.defers false)
theorem unw_marks {B : Mem} : ∀ {k : Nat} {G : List AObj}, MarkG G k → ∃ G' : List AObj, UnwM (marks B.length k) (B ++ G) (B ++ G')
  | 0, G, h => ⟨G, rfl⟩
  | k + 1, G, h => by
    have hk : MarkG (G.set (7 * k + 4) (.defers true)) k := by
      intro j hj
      rw [List.getElem?_set_ne (by omega)]
      exact h j (by omega)
    obtain ⟨G', h2⟩ := unw_marks (B := B) hk
    refine ⟨G', ?_, ?_⟩
    · rw [getA]; exact h k (by omega)
    · rw [setA]; exact h2
def F73 (m : Nat) (na : Option Addr) (nn nc : Nat) (da : Option Addr) (dn dc : Nat) (acc : List Int) (G : List AObj) : List AObj :=
  .cells [.slice na nn nc, .slice da dn dc] 2 .live :: .cells [.slice none 0 0] 1 .live :: .cells [.bool false] 1 .live :: .cells (ints acc ++ List.replicate (nn - acc.length) (.int .i64 0)) 1 .live :: .cells [.slice (some ⟨m + 3, 0, none⟩) acc.length nn] 1 .live :: G
theorem row_pre {M : Mem} {x u : Nat} {l r : List Value} (h : M[x]? = some (.cells (l ++ r) u .live)) : Row M (some ⟨x, 0, none⟩) l := by
  refine .inr ⟨x, 0, rfl, fun k hk => ?_⟩
  rw [Nat.zero_add, (at_of h).cell (v := l[k]) (by rw [List.getElem?_append_left hk]; exact List.getElem?_eq_getElem hk)]


theorem sizesG_ok : ∀ {ns : List Nd} {acc l : List Int}, sizesG ns acc = some l → l.length = acc.length + ns.length ∧ ∃ m, l = acc ++ m
  | [], acc, l, h => by cases h; exact ⟨by simp, [], by simp⟩
  | n :: ns, acc, l, h => by
    rw [sizesG] at h
    split at h
    · rename_i s hs
      obtain ⟨h1, m, h2⟩ := sizesG_ok h
      exact ⟨by rw [h1]; simp; omega, s :: m, by rw [h2]; simp⟩
    · simp at h
theorem SzOk.snoc {l : List Int} {s : Int} (h : SzOk l) (h1 : 1 ≤ s) (h2 : s ≤ (l.length : Int) + 1) : SzOk (l ++ [s]) := by
  intro i z hz
  rw [List.getElem?_append] at hz
  split at hz
  · exact h i z hz
  · rename_i hi
    have : i = l.length := by
      have := (List.getElem?_eq_some_iff.1 hz).1
      simp at this; omega
    subst this
    simp at hz
    subst hz
    exact ⟨h1, h2⟩
theorem sizesG_sz : ∀ {ns : List Nd} {acc l : List Int}, sizesG ns acc = some l → SzOk acc → SzOk l
  | [], acc, l, h, hl => by cases h; exact hl
  | n :: ns, acc, l, h, hl => by
    rw [sizesG] at h
    split at h
    · rename_i s hs
      have := szK_bound hl hs (by omega) (by omega)
      exact sizesG_sz h (hl.snoc this.1 this.2)
    · simp at h
def SI (M : Mem) (na : Option Addr) (nc : Nat) (da : Option Addr) (dn dc : Nat) (nds : List Nd) (n : Nat) (t : Int) (d : List ADef) (M1 : Mem) : Prop :=
  ∃ acc G, t = Int.ofNat acc.length ∧ acc.length + n = nds.length ∧ sizesG (nds.drop acc.length) acc = sizesG nds [] ∧ SzOk acc ∧ M1 = M ++ F73 M.length na nds.length nc da dn dc acc G ∧ G.length = 7 * acc.length ∧ MarkG G acc.length ∧ d = marks (M.length + 5) acc.length
def SO (M : Mem) (na : Option Addr) (nc : Nat) (da : Option Addr) (dn dc : Nat) (nds : List Nd) (d : List ADef) (M1 : Mem) : Prop :=
  ∃ l G, sizesG nds [] = some l ∧ M1 = M ++ F73 M.length na nds.length nc da dn dc l G ∧ MarkG G l.length ∧ d = marks (M.length + 5) l.length
def SX (M : Mem) (na : Option Addr) (nc : Nat) (da : Option Addr) (dn dc : Nat) (nds : List Nd) (d : List ADef) (M1 : Mem) : Prop :=
  ∃ acc G k, sizesG nds [] = none ∧ M1 = M ++ F73 M.length na nds.length nc da dn dc acc G ∧ MarkG G k ∧ d = marks (M.length + 5) k

theorem sizes_ret {M : Mem} {v : Value} {nds : List Nd} {ds : List Int} (hT : TreeR M v nds ds) (hn : nds.length ≤ 1000000) (hkn : ∀ n ∈ nds, n.kids.length ≤ 1000000) :
    ∃ a n c b M', Ret Try.prog 73 [v] M (.tuple ⟨[.slice a n c, .bool b]⟩) M' ∧ Keep M M' ∧ (match sizesG nds [] with | some l => b = true ∧ n = l.length ∧ SliceR M' 1 a n c (ints l) | none => b = false) := by
  obtain ⟨na, nc, da, dc, cs, rfl, hN, hR, hD⟩ := hT
  have key := Ret.wpH hP (K := fun v M' => ∃ a n c b, v = .tuple ⟨[.slice a n c, .bool b]⟩ ∧ Keep M M' ∧ (match sizesG nds [] with | some l => b = true ∧ n = l.length ∧ SliceR M' 1 a n c (ints l) | none => b = false)) (w73 (p00 := na) (p00n := nds.length) (p00c := nc) (p01 := da) (p01n := ds.length) (p01c := dc) (M := M) ?_)
  · obtain ⟨v, M', h1, a, n, c, b, rfl, h2⟩ := key
    exact ⟨a, n, c, b, M', h1, h2⟩
  simp only [List.append_assoc, List.cons_append, List.nil_append, List.length_append, List.length_cons, List.length_nil, Nat.zero_add, Nat.reduceAdd]
  refine ⟨_, _, _, (atA 0 rfl).rd k30 (o := 0) rfl, _, _, _, _, make22c hn _, ?_⟩
  simp only [List.append_assoc, List.cons_append, List.nil_append, List.length_append, List.length_cons, List.length_nil, Nat.zero_add, Nat.reduceAdd]
  refine ⟨_, wrA 4 rfl rfl, _, _, _, (atA 0 rfl).rd k30 (o := 0) rfl, fun t0 hT => ?_⟩
  have h0 : SI M na nc da ds.length dc nds nds.length (Int.ofNat 0) [] (M ++ F73 M.length na nds.length nc da ds.length dc [] []) :=
    ⟨[], [], rfl, by simp, rfl, fun i z h => by simp at h, rfl, rfl, fun j hj => by simp at hj, rfl⟩
  refine (loop73_0 (SI M na nc da ds.length dc nds) (SO M na nc da ds.length dc nds) (SX M na nc da ds.length dc nds) ?step (n := nds.length) (d := []) (rc := false) h0 hT).imp ?_ ?_
  case step =>
    rintro n t d rc M1 ⟨acc, G, rfl, hk, hs, hsz, rfl, hGl, hG, rfl⟩
    refine cnd_of (fun hlt => ?_) (fun hge => ?_)
    · have hlt := leF_lt hlt
      obtain ⟨y, o, ka, kc, u1, u2, u3, u4, u5⟩ := node_at (hN.keep (.app M (F73 M.length na nds.length nc da ds.length dc acc G))) (hR.keep (.app M _)) hlt rfl
      have hkm := hkn _ (List.getElem_mem hlt)
      have hdrop : nds.drop acc.length = nds[acc.length] :: nds.drop (acc.length + 1) := List.drop_eq_getElem_cons hlt
      rw [hdrop, sizesG] at hs
      generalize nds[acc.length] = nd at *
      have b1 : (M ++ F73 M.length na nds.length nc da ds.length dc acc G)[M.length + 1]? = some (.cells [.slice none 0 0] 1 .live) := by rw [getA]; rfl
      have b2 : (M ++ F73 M.length na nds.length nc da ds.length dc acc G)[M.length + 2]? = some (.cells [.bool false] 1 .live) := by rw [getA]; rfl
      have b3 : (M ++ F73 M.length na nds.length nc da ds.length dc acc G)[M.length + 3]? = some (.cells (ints acc ++ List.replicate (nds.length - acc.length) (.int .i64 0)) 1 .live) := by rw [getA]; rfl
      have b4 : (M ++ F73 M.length na nds.length nc da ds.length dc acc G)[M.length + 4]? = some (.cells [.slice (some ⟨M.length + 3, 0, none⟩) acc.length nds.length] 1 .live) := by rw [getA]; rfl
      have bl : (M ++ F73 M.length na nds.length nc da ds.length dc acc G).length = M.length + 5 + 7 * acc.length := by simp [F73, hGl]; omega
      generalize hB : M ++ F73 M.length na nds.length nc da ds.length dc acc G = B at *
      refine ⟨_, _, u1, _, _, _, _, _, _, _, u4, ?_⟩
      simp only [List.append_assoc, List.cons_append, List.nil_append, List.length_append, List.length_cons, List.length_nil, Nat.zero_add, Nat.reduceAdd]
      refine ⟨_, wrA 0 rfl rfl, _, wrAll 1 rfl rfl rfl, ?_⟩
      simp only [List.append_assoc, List.cons_append, List.nil_append, List.length_append, List.length_cons, List.length_nil, Nat.zero_add, Nat.reduceAdd, List.set_cons_zero, List.set_cons_succ]
      refine ⟨_, wrA 2 rfl rfl, _, _, _, (atA 1 rfl).rd k22 (o := 3) rfl, .inl ⟨_, _, _, back_ret _ _ _ _, ?_⟩⟩
      simp only [List.append_assoc, List.cons_append, List.nil_append, List.length_append, List.length_cons, List.length_nil, Nat.zero_add, Nat.reduceAdd, List.set_cons_zero, List.set_cons_succ]
      intro t8 hT8
      have hr := sizes_range b1 b2 b4 (row_pre b3) u5 hsz (by omega) hkm hT8 (nv := [.int .i64 nd.kind, .string nd.name, .string nd.arg, .slice ka nd.kids.length kc, .int .i64 nd.pos]) (d := marks (M.length + 5) acc.length) (rc := rc) rfl
      rw [show (B ++ o73 acc.length [.int .i64 nd.kind, .string nd.name, .string nd.arg, .slice ka nd.kids.length kc, .int .i64 nd.pos] 1 ka nd.kids.length kc []).length = B.length + 4 by simp [o73]] at hr
      refine hr.imp ?_ ?_
      · rintro ⟨M2, ⟨e, he, rfl⟩, hL⟩
        have heb := szK_bound hsz he (by omega) (by omega)
        rw [he] at hs
        dsimp only at hs
        have hkp : ∀ X : List AObj, Keep B (B ++ X) := fun X => .app B X
        refine ⟨_, hL, _, _, _, (at_of ((hkp _).get b4)).rd k22 (o := 0) rfl, _, (atA 2 rfl).rd k3 (o := 0) rfl, _, _, _, _, append_in (v := .int .i64 e) (((hkp _).one _).get b3) (src_at (get_last _ _) rfl) rfl (by unfold capU; omega) (by omega) (by simp [ints]; omega), ?_⟩
        have hsp : splice (ints acc ++ List.replicate (nds.length - acc.length) (.int .i64 0)) acc.length [.int .i64 e] = ints (acc ++ [e]) ++ List.replicate (nds.length - (acc ++ [e]).length) (.int .i64 0) := by
          obtain ⟨q, hq⟩ : ∃ q, nds.length - acc.length = q + 1 := ⟨nds.length - acc.length - 1, by omega⟩
          have hq2 : nds.length - (acc ++ [e]).length = q := by simp; omega
          rw [hq, hq2, List.replicate_succ]
          have hil : (ints acc).length = acc.length := by simp [ints]
          unfold splice
          rw [← hil, List.take_left, List.drop_append]
          simp [ints]
        rw [hsp]
        have hmem : ∀ lp : AObj, (B ++ o73 acc.length [.int .i64 nd.kind, .string nd.name, .string nd.arg, .slice ka nd.kids.length kc, .int .i64 nd.pos] e ka nd.kids.length kc [.defers false, lp]) ++ [AObj.cells [.int .i64 e] 1 .live] =
            M ++ F73 M.length na nds.length nc da ds.length dc acc (G ++ o73 acc.length [.int .i64 nd.kind, .string nd.name, .string nd.arg, .slice ka nd.kids.length kc, .int .i64 nd.pos] e ka nd.kids.length kc [.defers false, lp, AObj.cells [.int .i64 e] 1 .live]) := by
          intro lp; rw [← hB]; simp [F73, o73]
        rw [hmem, setA]
        refine ⟨_, wrA 4 rfl rfl, n - 1, by omega, acc ++ [e], _, ?_, ?_, ?_, hsz.snoc heb.1 heb.2, (by simp only [F73, List.set_cons_succ, List.set_cons_zero, List.length_append, List.length_cons, List.length_nil, Nat.zero_add]; rfl), ?_, ?_, ?_⟩
        · rw [add64 (by omega)]; simp
        · simp; omega
        · simpa using hs
        · simp [o73, hGl]; omega
        · intro j hj
          rw [List.getElem?_append]
          split
          · rename_i hj2
            exact hG j (by omega)
          · rename_i hj2
            have : 7 * j + 4 - G.length = 4 := by simp at hj; omega
            rw [this]; rfl
        · have e1 : (acc ++ [e]).length = acc.length + 1 := by simp
          rw [e1]
          show _ :: _ = ADef.mark _ :: _
          congr 2
          simp [o73, bl]; omega
      · rintro ⟨M2, ⟨e, he, rfl⟩, hL⟩
        rw [he] at hs
        dsimp only at hs
        generalize rfO Try.prog .exhausted (some .ret) 73 P73 t8 ⟨[25, 26]⟩ (B.length + 4) = lp at hL
        refine ⟨_, hL, acc, G ++ o73 acc.length [.int .i64 nd.kind, .string nd.name, .string nd.arg, .slice ka nd.kids.length kc, .int .i64 nd.pos] e ka nd.kids.length kc [.defers false, lp], acc.length + 1, hs.symm, ?_, ?_, ?_⟩
        · rw [← hB]; simp [F73, o73]
        · intro j hj
          rw [List.getElem?_append]
          split
          · rename_i hj2
            exact hG j (by omega)
          · rename_i hj2
            have : 7 * j + 4 - G.length = 4 := by omega
            rw [this]; rfl
        · show _ :: _ = ADef.mark _ :: _
          congr 2
          simp [o73, bl]; omega
    · have hge := leF_ge hge
      have hn0 : acc.length = nds.length := by omega
      refine ⟨acc, G, ?_, rfl, hG, rfl⟩
      rw [← hs, List.drop_eq_nil_of_le (by omega)]; rfl
  · rintro ⟨d', rc', M', hL, l, G, hl, rfl, hG, rfl⟩
    have hll := (sizesG_ok hl).1
    simp only [List.length_nil, Nat.zero_add] at hll
    rw [hl]
    have hB0 : ∀ (X : List AObj) (a b c d e : AObj), M ++ (a :: b :: c :: d :: e :: X) = (M ++ [a, b, c, d, e]) ++ X := by intros; simp
    obtain ⟨G', hU⟩ := unw_marks (B := M ++ [AObj.cells [.slice na nds.length nc, .slice da ds.length dc] 2 .live, .cells [.slice (some ⟨M.length + 3, 0, none⟩) l.length nds.length] 1 .live, .cells [.bool true] 1 .live, .cells (ints l ++ List.replicate (nds.length - l.length) (.int .i64 0)) 1 .live, .cells [.slice (some ⟨M.length + 3, 0, none⟩) l.length nds.length] 1 .live]) hG
    rw [← hB0, ← hB0] at hU
    simp only [List.length_append, List.length_cons, List.length_nil, Nat.zero_add, Nat.reduceAdd] at hU
    refine ⟨_, _, _, hL, fun _ => ⟨_, _, _, (atA 4 rfl).rd k22 (o := 0) rfl, _, wrA 1 rfl rfl, _, wrA 2 rfl rfl, _, hU, _, _, _, (atA 1 rfl).rd k22 (o := 0) rfl, true, (atA 2 rfl).rd k4 (o := 0) rfl, _, _, _, _, rfl, .app _ _, rfl, rfl, ?_⟩⟩
    refine SliceR.at_ (u := 1) (m := .live) ?_ (by decide) (by simp [ints])
    rw [getA]
    have : nds.length - l.length = 0 := by omega
    rw [this]
    simp
  · rintro ⟨d', rc', M', hL, acc, G, k, hl, rfl, hG, rfl⟩
    rw [hl]
    have hB0 : ∀ (X : List AObj) (a b c d e : AObj), M ++ (a :: b :: c :: d :: e :: X) = (M ++ [a, b, c, d, e]) ++ X := by intros; simp
    obtain ⟨G', hU⟩ := unw_marks (B := M ++ [AObj.cells [.slice na nds.length nc, .slice da ds.length dc] 2 .live, .cells [.slice none 0 0] 1 .live, .cells [.bool false] 1 .live, .cells (ints acc ++ List.replicate (nds.length - acc.length) (.int .i64 0)) 1 .live, .cells [.slice (some ⟨M.length + 3, 0, none⟩) acc.length nds.length] 1 .live]) hG
    rw [← hB0, ← hB0] at hU
    simp only [List.length_append, List.length_cons, List.length_nil, Nat.zero_add, Nat.reduceAdd] at hU
    exact ⟨_, _, _, hL, fun _ => ⟨_, hU, _, _, _, (atA 1 rfl).rd k22 (o := 0) rfl, false, (atA 2 rfl).rd k4 (o := 0) rfl, _, _, _, _, rfl, .app _ _, rfl⟩⟩

end Go.Proofs.YtabkcbaknjenmaaAM

/-
  THE NODE LAWS: how deep a tree is.
-/
set_option linter.unusedVariables false
set_option linter.unusedSimpArgs false
namespace Go.Proofs.YtabkcbaknjenmaaAM
open Go Go.Proofs
set_option maxRecDepth 100000
set_option maxHeartbeats 4000000

def setAll (v : Int) : List Int → List Int → List Int
  | dl, [] => dl
  | dl, k :: ks => setAll v (dl.set k.toNat v) ks
def depthStep (kids : List Int) (i : Nat) (s : List Int × Int) : List Int × Int :=
  (setAll (s.1.getD i 0 + 1) (s.1.set i (s.1.getD i 0 + 1)) kids, if s.2 < s.1.getD i 0 + 1 then s.1.getD i 0 + 1 else s.2)
/-- From the last node on. -/
def depthG (nds : List Nd) : Nat → List Int × Int → List Int × Int
  | 0, s => s
  | i + 1, s => match nds[i]? with
    | some n => depthG nds i (depthStep n.kids i s)
    | none => s
def depthS (nds : List Nd) : Int := (depthG nds nds.length (List.replicate nds.length 0, 0)).2
theorem setAll_len (v : Int) : ∀ (ks dl : List Int), (setAll v dl ks).length = dl.length
  | [], dl => rfl
  | k :: ks, dl => by rw [setAll, setAll_len v ks]; simp
theorem setAll_at (v : Int) : ∀ (ks dl : List Int) (i : Nat), (∀ k ∈ ks, k.toNat ≠ i) → (setAll v dl ks)[i]? = dl[i]?
  | [], dl, i, h => rfl
  | k :: ks, dl, i, h => by
    rw [setAll, setAll_at v ks _ i (fun k' hk' => h k' (List.mem_cons_of_mem _ hk')), List.getElem?_set_ne (h k List.mem_cons_self)]
theorem setAll_mem (v : Int) : ∀ (ks dl : List Int) (x : Int), x ∈ setAll v dl ks → x ∈ dl ∨ x = v
  | [], dl, x, h => .inl h
  | k :: ks, dl, x, h => by
    rcases setAll_mem v ks _ x h with h | h
    · exact (List.mem_or_eq_of_mem_set h).imp id id
    · exact .inr h
theorem setAll_app (v : Int) : ∀ (ks : List Int) (k : Int) (dl : List Int), setAll v dl (ks ++ [k]) = (setAll v dl ks).set k.toNat v
  | [], k, dl => rfl
  | k' :: ks, k, dl => by rw [List.cons_append, setAll, setAll_app v ks, setAll]
theorem at22 {b n c k : Nat} {i : Int} (hi : i = Int.ofNat k) (hk : k < n) : idxA Try.prog 22 (.slice (some ⟨b, 0, none⟩) n c) (.int .i64 i) = some (.pointer (some ⟨b, k, none⟩)) := by
  have := idx_of (ty := 22) (e := 3) (size := 1) (by kernel_rfl) (by kernel_rfl) (x := b) (o := 0) (n := n) (c := c) (kk := .i64) hi hk
  rwa [Nat.mul_one, Nat.zero_add] at this
theorem ints_set (dl : List Int) (k : Nat) (v : Int) (hk : k < dl.length) : splice (ints dl) k [.int .i64 v] = ints (dl.set k v) := by
  apply List.ext_getElem?
  intro j
  rw [splice_get _ _ _ (by simp [ints]; omega)]
  by_cases hj : j = k
  · subst hj
    rw [if_pos (by simp)]
    simp [ints, hk]
  · rw [if_neg (by simp; omega)]
    simp only [ints, List.getElem?_map]
    rw [List.getElem?_set_ne (fun e => hj e.symm)]
theorem wrI {M : Mem} {G : List AObj} (q : Nat) {dl : List Int} {k : Nat} {v : Int} (h : G[q]? = some (.cells (ints dl) 1 .live)) (hk : k < dl.length) : wrCells (M ++ G) (M.length + q) k [.int .i64 v] = some (M ++ G.set q (.cells (ints (dl.set k v)) 1 .live)) := by
  rw [wrCells_at (by rw [getA]; exact h) (by simp [ints]; omega) (by rfl), setA, ints_set _ _ _ hk]
theorem ints_get {l : List Int} {k : Nat} (hk : k < l.length) : (ints l)[k]? = some (.int .i64 l[k]) := by simp [ints, hk]

theorem depth_ret {M : Mem} {v : Value} {nds : List Nd} {ds : List Int} (hT : TreeR M v nds ds) (hn : nds.length ≤ 1000000) (hkn : ∀ n ∈ nds, n.kids.length ≤ 1000000) (hkk : ∀ i (h : i < nds.length), ∀ k ∈ nds[i].kids, 0 ≤ k ∧ k < (i : Int)) :
    ∃ M', Ret Try.prog 76 [v] M (.int .i64 (depthS nds)) M' ∧ Keep M M' := by
  obtain ⟨na, nc, da, dc, cs, rfl, hN, hR, hD⟩ := hT
  have key := Ret.wpH hP (K := fun v M' => v = .int .i64 (depthS nds) ∧ Keep M M') (w76 (p00 := na) (p00n := nds.length) (p00c := nc) (p01 := da) (p01n := ds.length) (p01c := dc) (M := M) ?_)
  · obtain ⟨v, M', h1, rfl, h2⟩ := key
    exact ⟨M', h1, h2⟩
  refine ⟨_, _, _, (At.last M _ _).rd k30 (o := 0) rfl, _, _, _, _, make22 hn _, ?_⟩
  simp only [List.append_assoc, List.cons_append, List.nil_append, List.length_append, List.length_cons, List.length_nil, Nat.zero_add, Nat.reduceAdd]
  refine ⟨_, _, _, (atA 0 rfl).rd k30 (o := 0) rfl, fun t0 hT => ?_⟩
  generalize htb : AObj.cells [.slice na nds.length nc, .slice da ds.length dc] 2 .live = tb at *
  have hrd : ∀ G : List AObj, rdVar Try.prog (M ++ tb :: G) 30 M.length 0 = some (.slice na nds.length nc) := fun G => by rw [← htb]; exact (atA 0 rfl).rd k30 (o := 0) rfl
  have hw : wrapF .i64 (Int.sub (Int.ofNat nds.length) (Int.ofNat 1)) = (nds.length : Int) - 1 := by
    have : Int.sub (Int.ofNat nds.length) (Int.ofNat 1) = (nds.length : Int) - 1 := rfl
    rw [this]; exact wrap64 (by omega) (by omega)
  rw [hw] at hT
  obtain ⟨i, M', hL, hi, hM⟩ := loop76_0 (Inv := fun n t2 t4 M1 => ∃ dl : List Int, t4 = (n : Int) - 1 ∧ n ≤ nds.length ∧ dl.length = nds.length ∧ M1 = M ++ [tb, .cells (ints dl) 1 .live] ∧ (∀ x ∈ dl, 0 ≤ x ∧ x ≤ (nds.length : Int) - n) ∧ depthG nds n (dl, t2) = depthG nds nds.length (List.replicate nds.length 0, 0))
    (R0 := fun t2 M1 => t2 = depthS nds ∧ Keep M M1) (step := by
      rintro n t2 t4 M1 ⟨dl, rfl, hnn, hdl, rfl, hb, hd⟩
      refine cnd_of (fun hge => ?_) (fun hlt => ?_)
      · have hn0 : 0 < n := by
          have := leF_t.1 hge
          have h0 : Int.ofNat 0 = 0 := rfl
          omega
        obtain ⟨k, rfl⟩ : ∃ k, n = k + 1 := ⟨n - 1, by omega⟩
        have hki : ((k + 1 : Nat) : Int) - 1 = Int.ofNat k := by show _ = (k : Int); omega
        simp only [hki]
        have hkl : k < nds.length := by omega
        obtain ⟨y, o, ka, kc, u1, u2, u3, u4, u5⟩ := node_at hN hR hkl rfl
        have hkm := hkn _ (List.getElem_mem hkl)
        have hkk' := hkk k hkl
        have hgk : nds[k]? = some nds[k] := List.getElem?_eq_getElem hkl
        rw [depthG, hgk] at hd
        dsimp only at hd
        generalize nds[k] = nd at *
        have hv := hb _ (List.getElem_mem (show k < dl.length by omega))
        have hw1 : wrapF .i64 (Int.add dl[k] (Int.ofNat 1)) = dl[k] + 1 := by
          have : Int.add dl[k] (Int.ofNat 1) = dl[k] + 1 := rfl
          rw [this]; exact wrap64 (by omega) (by omega)
        have hgd : dl.getD k 0 = dl[k] := by simp [List.getD, hdl, hkl]
        have hl1 : (dl.set k (dl[k] + 1)).length = nds.length := by simp [hdl]
        refine ⟨_, _, at22 rfl hkl, dl[k], (atA 1 rfl).rd k3 (ints_get (by omega)), _, _, at22 rfl hkl, M ++ [tb, .cells (ints (dl.set k (dl[k] + 1))) 1 .live], by rw [hw1]; exact wrI 1 rfl (by omega), _, _, at22 rfl hkl, dl[k] + 1, (atA 1 rfl).rd k3 (by rw [ints_get (by omega)]; simp), _, _, _, hrd _, _, _, u1, _, _, _, rd_of_cell k22 ((Keep.app M _).cell (u3 3 _ rfl)), fun t1 hT1 => ?_⟩
        obtain ⟨M', hL, hM⟩ := loop76_1 (Inv := fun m t M1 => ∃ j : Nat, t = Int.ofNat j ∧ j + m = nd.kids.length ∧ M1 = M ++ [tb, .cells (ints (setAll (dl[k] + 1) (dl.set k (dl[k] + 1)) (nd.kids.take j))) 1 .live])
          (R0 := fun M1 => M1 = M ++ [tb, .cells (ints (setAll (dl[k] + 1) (dl.set k (dl[k] + 1)) nd.kids)) 1 .live]) (step := by
            rintro m t M1 ⟨j, rfl, hj, rfl⟩
            refine cnd_of (fun hlt => ?_) (fun hge => ?_)
            · have hlt := leF_lt hlt
              have hq := hkk' _ (List.getElem_mem hlt)
              have hn1 : ∀ q ∈ nd.kids.take j, q.toNat ≠ k := fun q hq => by
                have := hkk' q (List.mem_of_mem_take hq)
                omega
              have hi2 : nd.kids[j] = Int.ofNat nd.kids[j].toNat := (Int.toNat_of_nonneg hq.1).symm
              obtain ⟨y2, o2, v1, v2⟩ := ints_at (u5.keep (.app M [tb, .cells (ints (setAll (dl[k] + 1) (dl.set k (dl[k] + 1)) (nd.kids.take j))) 1 .live])).row hlt (c := kc) rfl
              refine ⟨_, _, v1, _, v2, _, _, at22 rfl hkl, dl[k] + 1, (atA 1 rfl).rd k3 ?_, _, _, at22 hi2 (by omega), _, wrI 1 rfl (by rw [setAll_len]; omega), m - 1, by omega, j + 1, add64 (by omega), by omega, ?_⟩
              · simp only [ints, List.getElem?_map]
                rw [setAll_at _ _ _ _ hn1]
                simp [hdl, hkl]
              · rw [List.take_succ_eq_append_getElem hlt, setAll_app]; rfl
            · have hge := leF_ge hge
              rw [List.take_of_length_le (by omega)]) (n := nd.kids.length) (d := []) (rc := false) ⟨0, rfl, by simp, rfl⟩ hT1
        refine ⟨M', hL, fun _ => ⟨k, by omega, setAll (dl[k] + 1) (dl.set k (dl[k] + 1)) nd.kids, ?_, by omega, by rw [setAll_len]; exact hl1, hM, ?_, ?_⟩⟩
        · exact wrap64 (by show _ ≤ (k : Int) - 1; omega) (by show (k : Int) - 1 < _; omega)
        · intro x hx
          rcases setAll_mem _ _ _ _ hx with hx | hx
          · rcases List.mem_or_eq_of_mem_set hx with hx | hx
            · have := hb x hx; omega
            · omega
          · omega
        · rw [← hd, depthStep, hgd]
      · have hn0 : n = 0 := by
          have := leF_f.1 hlt
          have h0 : Int.ofNat 0 = 0 := rfl
          omega
        subst hn0
        exact ⟨by rw [depthS, ← hd]; rfl, .app _ _⟩) (n := nds.length) (d := []) (rc := false) (M := M ++ [tb, .cells (List.replicate nds.length (.int .i64 0)) 1 .live]) ⟨List.replicate nds.length 0, rfl, Nat.le_refl _, by simp, by simp [ints], fun x hx => by rw [List.eq_of_mem_replicate hx]; omega, rfl⟩ hT
  exact ⟨i, M', hL, fun _ => ⟨by rw [hi], hM⟩⟩

end Go.Proofs.YtabkcbaknjenmaaAM

/-
  THE NODE LAWS: are a node's kids what they must be?
-/
set_option linter.unusedVariables false
set_option linter.unusedSimpArgs false
namespace Go.Proofs.YtabkcbaknjenmaaAM
open Go Go.Proofs
set_option maxRecDepth 100000
set_option maxHeartbeats 4000000

/-- A node whose kids are of the kinds that it wants. -/
def KidsFit (nds : List Nd) (n : Nd) : Prop := ∃ ss, kidsS n.kind n.name n.arg n.kids.length = some ss ∧ ss.length = n.kids.length ∧ ∀ j (h : j < n.kids.length), ∃ (k : Nat) (hk : k < nds.length), n.kids[j] = Int.ofNat k ∧ isS nds[k].kind (ss.getD j 9) = true ∧ (n.kind = 10 → j % 2 = 0 → nds[k].kind = 1) ∧ (n.kind = 30 → j = 1 → nds[k].kind = 16)
theorem fits_ret {M : Mem} {v : Value} {nds : List Nd} {ds : List Int} (hT : TreeR M v nds ds) {nd : Nd} {ka : Option Addr} {kc : Nat} (hK : SliceR M 1 ka nd.kids.length kc (ints nd.kids)) (hF : KidsFit nds nd) (hs1 : Short nd.name) (hs2 : Short nd.arg) (hkl : nd.kids.length ≤ 1000000)
    {w : ByteArray} {fv fk : Value} {b : Bool} {f : ByteArray → Bool} {g : ByteArray → Nat → List Int × Bool} (hf : NameFn M fv f) (hg : KidsFn M fk g) (hfg : ∀ nm ar n, cond ((g nm n).2 && (f nm && argOk b ar)) (some (g nm n).1) none = kidsS nd.kind nm ar n) :
    ∃ M', Ret Try.prog 75 [v, .agg ⟨nd.v ka kc⟩, .agg ⟨rowV w fv b fk⟩] M (.bool true) M' ∧ Keep M M' := by
  obtain ⟨ss, hss, hsl, hOk⟩ := hF
  obtain ⟨na, nc, da, dc, cs, rfl, hN, hR, hD⟩ := hT
  have key := Ret.wpH hP (K := fun v M' => v = .bool true ∧ Keep M M') (w75 (p00 := na) (p00n := nds.length) (p00c := nc) (p01 := da) (p01n := ds.length) (p01c := dc) (p10 := nd.kind) (p11 := nd.name) (p12 := nd.arg) (p13 := ka) (p13n := nd.kids.length) (p13c := kc) (p14 := nd.pos) (p20 := w) (p21 := fv) (p22 := b) (p23 := fk) (M := M) ?_)
  · obtain ⟨v, M', h1, rfl, h2⟩ := key
    exact ⟨M', h1, h2⟩
  simp only [List.append_assoc, List.cons_append, List.nil_append, List.length_append, List.length_cons, List.length_nil, Nat.zero_add, Nat.reduceAdd]
  generalize hMb : M ++ [AObj.cells [.slice na nds.length nc, .slice da ds.length dc] 2 .live, AObj.cells [.int .i64 nd.kind, .string nd.name, .string nd.arg, .slice ka nd.kids.length kc, .int .i64 nd.pos] 5 .live, AObj.cells [.string w, fv, .bool b, fk] 4 .live] = Mb at *
  have hk0 : Keep M Mb := by rw [← hMb]; exact .app _ _
  have a0 : At Mb M.length [.slice na nds.length nc, .slice da ds.length dc] := by rw [← hMb]; exact atA 0 rfl
  have a1 : At Mb (M.length + 1) (nd.v ka kc) := by rw [← hMb]; exact atA 1 rfl
  have a2 : At Mb (M.length + 2) (rowV w fv b fk) := by rw [← hMb]; exact atA 2 rfl
  have nf' : NameFn Mb fv f := by
    rcases hf with hf | ⟨g0, cap0, e, hw, hall⟩
    · exact .inl hf
    · exact .inr ⟨g0, cap0, e, hw, fun s M' hs hk' => hall s M' hs (hk0.trans hk')⟩
  have kf' : KidsFn Mb fk g := by
    obtain ⟨id, cap, e, hw, hall⟩ := hg
    exact ⟨id, cap, e, hw, fun i nm ar a n c pos M' hs hn' hk' => hall i nm ar a n c pos M' hs hn' (hk0.trans hk')⟩
  obtain ⟨v, M2, h1, h2, h3⟩ := sorts34_ret (w := w) (b := b) nf' kf' (i := nd.kind) (nm := nd.name) (ar := nd.arg) (a := ka) (n := nd.kids.length) (c := kc) (pos := nd.pos) hs1 hs2 hkl
  rw [hfg, hss] at h3
  obtain ⟨a7, c7, rfl, row7⟩ := h3
  have lp : ∀ t0 : List Value, TIn 76 [(3, .pointer (some ⟨M.length, 0, none⟩)), (4, .pointer (some ⟨M.length + 1, 0, none⟩)), (7, .slice a7 ss.length c7), (21, .slice ka nd.kids.length kc), (22, .int .i64 (Int.ofNat nd.kids.length)), (8, .bool true), (23, .int .i64 (Int.ofNat 0))] t0 →
      ∃ b' M', LpT Try.prog (Env.fn 75) [1, 1, 0, 1, 0] t0 [] M2 false (.exit 0) [(8, .bool b')] M' ∧ ((Nat → Value) → .bool b' = Value.bool true ∧ Keep M M') := by
    intro t0 hT
    obtain ⟨b', M', hL, hb, rfl⟩ := loop75_0 (Inv := fun n t8 t M1 => t8 = true ∧ ∃ j : Nat, t = Int.ofNat j ∧ j + n = nd.kids.length ∧ M1 = M2) (R0 := fun t8 M1 => t8 = true ∧ M1 = M2) (step := by
      rintro n t8 t M1 ⟨rfl, j, rfl, hj, rfl⟩
      refine cnd_of (fun hlt => ?_) (fun hge => ⟨rfl, rfl⟩)
      have hlt := leF_lt hlt
      obtain ⟨k, hk, e1, e2, e3, e4⟩ := hOk j hlt
      have hk2 : Keep M M1 := hk0.trans h2
      obtain ⟨y, o, v1, v2⟩ := ints_at (hK.keep hk2).row hlt (c := kc) rfl
      rw [e1] at v2
      obtain ⟨y2, o2, ka2, kc2, u1, u2, u3, u4, u5⟩ := node_at (hN.keep hk2) (hR.keep hk2) hk (i := Int.ofNat k) rfl
      obtain ⟨y3, o3, w1, w2⟩ := ints_at row7 (k := j) (by omega) (c := c7) rfl
      have hgd : ss.getD j 9 = ss[j]'(by omega) := by simp [List.getD, hsl, hlt]
      rw [hgd] at e2
      have hkd : rdVar Try.prog M1 3 (M.length + 1) 0 = some (.int .i64 nd.kind) := (a1.keep h2).rd k3 (o := 0) rfl
      have nx : ∀ {bb : Bool}, bb = true → ∃ m, m < n ∧ bb = true ∧ ∃ j', wrapF .i64 (Int.add (Int.ofNat j) (Int.ofNat 1)) = Int.ofNat j' ∧ j' + m = nd.kids.length ∧ M1 = M1 := fun hbb => ⟨n - 1, by omega, hbb, j + 1, add64 (by omega), by omega, rfl⟩
      have is1 : ∀ {A B : Mem → Prop}, A M1 → ∃ (n12 n13 : Nat), idxA Try.prog 22 (.slice a7 ss.length c7) (.int .i64 (Int.ofNat j)) = some (.pointer (some ⟨n12, n13, none⟩)) ∧ ∃ i14, rdVar Try.prog M1 3 n12 n13 = some (.int .i64 i14) ∧ ∃ (b15 : Bool) (M16 : Mem), Ret Try.prog 18 [.int .i64 nds[k].kind, .int .i64 i14] M1 (.bool b15) M16 ∧ cnd b15 (A M16) (B M16) :=
        fun hA => ⟨_, _, w1, _, w2, _, _, is_ret _ _ _, cnd_t' e2 hA⟩
      refine ⟨_, _, v1, _, v2, _, _, _, (a0.keep h2).rd k30 (o := 0) rfl, _, _, u1, _, rd_of_cell k3 (u3 0 _ rfl), _, hkd, cnd_of (fun h10 => ?_) (fun h10 => ?_)⟩
      · have h10 := eqF_t.1 h10
        refine ⟨_, remN (by decide) (by decide) _ _, _, hkd, cnd_f' (eqF_f.2 (by rw [h10]; decide)) (cnd_t (is1 ?_))⟩
        refine cnd_of (fun h2 => nx rfl) (fun h2 => ?_)
        have h2 : j % 2 = 0 := by
          have : eqF (Int.ofNat (j % 2)) (Int.ofNat 0) = true := by simpa using h2
          exact Int.ofNat.inj (eqF_t.1 this)
        exact cnd_t' (eqF_t.2 (e3 h10 h2)) (nx rfl)
      · refine ⟨_, hkd, cnd_of (fun h30 => ?_) (fun h30 => ?_)⟩
        · have h30 := eqF_t.1 h30
          refine cnd_t (is1 ?_)
          refine cnd_of (fun h2 => nx rfl) (fun h2 => nx ?_)
          have h2 : j = 1 := by
            have : eqF (Int.ofNat j) (Int.ofNat 1) = true := by simpa using h2
            exact Int.ofNat.inj (eqF_t.1 this)
          exact eqF_t.2 (e4 h30 h2)
        · exact cnd_t (is1 (nx rfl))) (n := nd.kids.length) (d := []) (rc := false) (M := M2) ⟨rfl, 0, rfl, by simp, rfl⟩ hT
    exact ⟨b', M', hL, fun _ => ⟨by rw [hb], hk0.trans h2⟩⟩
  have rk : rdVar Try.prog M2 22 (M.length + 1) 3 = some (.slice ka nd.kids.length kc) := (a1.keep h2).rd k22 (o := 3) rfl
  obtain ⟨id, cap, e, _⟩ := hg
  subst e
  rcases fn_form hf with e | ⟨g0, cap0, e⟩
  · subst e
    exact ⟨_, .inr ⟨b, .inl ⟨id, cap, a2.rdA k60 s60, _, _, _, _, _, _, _, a1.rdA k24 s24, _, _, _, _, _, h1, _, _, _, rk, fun t0 hT => lp t0 hT⟩⟩⟩
  · subst e
    exact ⟨_, .inl ⟨g0, cap0, b, .inl ⟨id, cap, a2.rdA k60 s60, _, _, _, _, _, _, _, a1.rdA k24 s24, _, _, _, _, _, h1, _, _, _, rk, fun t0 hT => lp t0 hT⟩⟩⟩

end Go.Proofs.YtabkcbaknjenmaaAM

/-
  THE NODE LAWS: a tree, checked.
-/
set_option linter.unusedVariables false
set_option linter.unusedSimpArgs false
namespace Go.Proofs.YtabkcbaknjenmaaAM
open Go Go.Proofs
set_option maxRecDepth 100000
set_option maxHeartbeats 4000000

/-- Sizes are not as they must be, or not all nodes are in defs. -/
def Bad (nds : List Nd) (ds : List Int) : Prop := match sizesG nds [] with
  | some l => wholeS nds l ds = false
  | none => True
theorem checked_bad {M : Mem} {v : Value} {nds : List Nd} {ds : List Int} (hT : TreeR M v nds ds) (hn : nds.length ≤ 1000000) (hd : ds.length ≤ 1000000) (hkn : ∀ n ∈ nds, n.kids.length ≤ 1000000) (hB : Bad nds ds) :
    ∃ M', Ret Try.prog 43 [v] M (.tuple ⟨[.slice none 0 0, .int .i64 (Int.ofNat 0), .bool false]⟩) M' ∧ Keep M M' := by
  have hT0 := hT
  obtain ⟨na, nc, da, dc, cs, rfl, hN, hR, hD⟩ := hT
  have key := Ret.wpH hP (K := fun v M' => v = .tuple ⟨[.slice none 0 0, .int .i64 (Int.ofNat 0), .bool false]⟩ ∧ Keep M M') (w43 (p00 := na) (p00n := nds.length) (p00c := nc) (p01 := da) (p01n := ds.length) (p01c := dc) (M := M) ?_)
  · obtain ⟨v, M', h1, rfl, h2⟩ := key
    exact ⟨M', h1, h2⟩
  have hA := At.last M [.slice na nds.length nc, .slice da ds.length dc] 2
  have k0 : Keep M (M ++ [AObj.cells [.slice na nds.length nc, .slice da ds.length dc] 2 .live]) := .app _ _
  obtain ⟨a, n, c, b, M1, h1, k1, hs⟩ := sizes_ret (hT0.keep k0) hn hkn
  refine ⟨_, _, _, _, _, _, hA.rdA k32 s32, _, _, _, _, _, h1, ?_⟩
  unfold Bad at hB
  cases hl : sizesG nds [] with
  | none =>
    rw [hl] at hs
    subst hs
    exact cnd_t ⟨rfl, k0.trans k1⟩
  | some l =>
    rw [hl] at hs hB
    obtain ⟨rfl, rfl, hS⟩ := hs
    obtain ⟨M2, h2, k2⟩ := whole_ret (hT0.keep (k0.trans k1)) hS (by have := (sizesG_ok hl).1; simpa using this) (sizesG_sz hl (fun i z h => by simp at h)) hn hd
    rw [hB] at h2
    exact cnd_f ⟨_, _, _, _, _, _, (hA.keep k1).rdA k32 s32, _, _, h2, cnd_t ⟨rfl, (k0.trans k1).trans k2⟩⟩

theorem checked_good {M : Mem} {v : Value} {nds : List Nd} {ds l : List Int} (hT : TreeR M v nds ds) (hn : nds.length ≤ 1000000) (hd : ds.length ≤ 1000000) (hkn : ∀ n ∈ nds, n.kids.length ≤ 1000000) (hl : sizesG nds [] = some l) (hw : wholeS nds l ds = true)
    (hf : ∀ n ∈ nds, KidsFit nds n ∧ (∃ k : Nat, k < 36 ∧ n.kind = Int.ofNat k) ∧ Short n.name ∧ Short n.arg) (hkk : ∀ i (h : i < nds.length), ∀ k ∈ nds[i].kids, 0 ≤ k ∧ k < (i : Int)) :
    ∃ a c M', Ret Try.prog 43 [v] M (.tuple ⟨[.slice a l.length c, .int .i64 (depthS nds), .bool (leF (depthS nds) (Int.ofNat 256))]⟩) M' ∧ Keep M M' ∧ SliceR M' 1 a l.length c (ints l) := by
  have hT0 := hT
  obtain ⟨na, nc, da, dc, cs, rfl, hN, hR, hD⟩ := hT
  have key := Ret.wpH hP (K := fun v M' => ∃ a c, v = .tuple ⟨[.slice a l.length c, .int .i64 (depthS nds), .bool (leF (depthS nds) (Int.ofNat 256))]⟩ ∧ Keep M M' ∧ SliceR M' 1 a l.length c (ints l)) (w43 (p00 := na) (p00n := nds.length) (p00c := nc) (p01 := da) (p01n := ds.length) (p01c := dc) (M := M) ?_)
  · obtain ⟨v, M', h1, a, c, rfl, h2, h3⟩ := key
    exact ⟨a, c, M', h1, h2, h3⟩
  have hA := At.last M [.slice na nds.length nc, .slice da ds.length dc] 2
  have k0 : Keep M (M ++ [AObj.cells [.slice na nds.length nc, .slice da ds.length dc] 2 .live]) := .app _ _
  obtain ⟨a, n, c, b, M1, h1, k1, hs⟩ := sizes_ret (hT0.keep k0) hn hkn
  refine ⟨_, _, _, _, _, _, hA.rdA k32 s32, _, _, _, _, _, h1, ?_⟩
  rw [hl] at hs
  obtain ⟨rfl, rfl, hS⟩ := hs
  obtain ⟨M2, h2, k2⟩ := whole_ret (hT0.keep (k0.trans k1)) hS (by have := (sizesG_ok hl).1; simpa using this) (sizesG_sz hl (fun i z h => by simp at h)) hn hd
  rw [hw] at h2
  have hrows := rows_ret M2
  have hmap : (M2 ++ rowsM M2.length)[M2.length]? = some (.map (rowsEs M2.length)) := by
    have := rows_get M2 0 rfl
    rwa [Nat.add_zero] at this
  have kr : Keep M2 (M2 ++ rowsM M2.length) := .app _ _
  have hrowAt := rowAt M2
  have hA3 := ((hA.keep k1).keep k2).keep kr
  have kAll := ((k0.trans k1).trans k2).trans kr
  have hS3 := (hS.keep k2).keep kr
  generalize hM3 : M2 ++ rowsM M2.length = M3 at *
  refine cnd_f ⟨_, _, _, _, _, _, (hA.keep k1).rdA k32 s32, _, _, h2, cnd_f ⟨_, _, hrows, _, _, _, hA3.rd k30 (o := 0) rfl, fun t0 hT => ?_⟩⟩
  refine .inl ?_
  rcases loop43_0 (Inv := fun n t2 t2n t2c t M4 => t2 = a ∧ t2n = l.length ∧ t2c = c ∧ Keep M3 M4 ∧ ∃ j : Nat, t = Int.ofNat j ∧ j + n = nds.length) (R0 := fun t2 t2n t2c M4 => t2 = a ∧ t2n = l.length ∧ t2c = c ∧ Keep M3 M4) (R1 := fun _ _ _ _ _ _ => False) (step := by
    rintro n t2 t2n t2c t M4 ⟨rfl, rfl, rfl, k4, j, rfl, hj⟩
    refine cnd_of (fun hlt => ?_) (fun hge => ⟨rfl, rfl, rfl, k4⟩)
    have hlt := leF_lt hlt
    obtain ⟨y, o, ka, kc, u1, u2, u3, u4, u5⟩ := node_at (hN.keep (kAll.trans k4)) (hR.keep (kAll.trans k4)) hlt rfl
    obtain ⟨hfit, ⟨k, hk, hkind⟩, hs1, hs2⟩ := hf _ (List.getElem_mem hlt)
    have hkm := hkn _ (List.getElem_mem hlt)
    generalize nds[j] = nd at *
    have hwr5 := wr_last (M := M4) (vs := [.int .i64 (Int.ofNat 0), .string (ByteArray.mk #[]), .string (ByteArray.mk #[]), .slice none 0 0, .int .i64 (Int.ofNat 0)]) (new := nd.v ka kc) (u := 5) rfl rfl
    have hA5 := At.last M4 (nd.v ka kc) 5
    have k5 : Keep M4 (M4 ++ [AObj.cells (nd.v ka kc) 5 .live]) := .app _ _
    generalize hM5 : M4 ++ [AObj.cells (nd.v ka kc) 5 .live] = M5 at *
    obtain ⟨q, fv, fk, f, g, b, hfi, hnf, hg, heq⟩ := hrowAt k hk
    rw [hM3] at hnf hg
    have hlk := lookup_es ((k4.trans k5).get hmap) hfi true
    have hone : (rowV (wordsL.getD k noText) fv b fk).all Value.oneCell' = true := by
      obtain ⟨id, cap, e, _⟩ := hg
      subst e
      rcases fn_form hnf with e | ⟨g0, cap0, e⟩ <;> subst e <;> rfl
    have hwr := wr_last (M := M5) (vs := [.string (ByteArray.mk #[]), .nilFunc, .bool false, .nilFunc]) (new := rowV (wordsL.getD k noText) fv b fk) (u := 4) rfl hone
    have hR6 := At.last M5 (rowV (wordsL.getD k noText) fv b fk) 4
    have k6 : Keep M5 (M5 ++ [AObj.cells (rowV (wordsL.getD k noText) fv b fk) 4 .live]) := .app _ _
    generalize hM6 : M5 ++ [AObj.cells (rowV (wordsL.getD k noText) fv b fk) 4 .live] = M6 at *
    have k36 := (k4.trans k5).trans k6
    have nf' : NameFn M6 fv f := by
      rcases hnf with hnf | ⟨g0, cap0, e, hw, hall⟩
      · exact .inl hnf
      · exact .inr ⟨g0, cap0, e, hw, fun s M' hs hk' => hall s M' hs (k36.trans hk')⟩
    have kf' : KidsFn M6 fk g := by
      obtain ⟨id, cap, e, hw, hall⟩ := hg
      exact ⟨id, cap, e, hw, fun i nm ar a n c pos M' hs hn' hk' => hall i nm ar a n c pos M' hs hn' (k36.trans hk')⟩
    obtain ⟨M7, h7, k7⟩ := fits_ret (hT0.keep (kAll.trans k36)) (u5.keep (k5.trans k6)) hfit hs1 hs2 hkm (w := wordsL.getD k noText) (b := b) nf' kf' (by rw [hkind]; exact heq)
    have hkd : rdVar Try.prog M5 3 M4.length 0 = some (.int .i64 (Int.ofNat k)) := by rw [← hkind]; exact hA5.rd k3 (o := 0) rfl
    have htr := (hA3.keep k36).rdA k32 s32
    have hnd := (hA5.keep k6).rdA k24 s24
    have hrw := hR6.rdA k60 s60
    have nx : ∃ m, m < n ∧ t2 = t2 ∧ l.length = l.length ∧ t2c = t2c ∧ Keep M3 M7 ∧ ∃ j' : Nat, wrapF .i64 (Int.add (Int.ofNat j) (Int.ofNat 1)) = Int.ofNat j' ∧ j' + m = nds.length := ⟨n - 1, by omega, rfl, rfl, rfl, k36.trans k7, j + 1, add64 (by omega), by omega⟩
    obtain ⟨id, cap, e, _⟩ := hg
    subst e
    rcases fn_form hnf with e | ⟨g0, cap0, e⟩
    · subst e
      exact ⟨_, _, u1, _, _, _, _, _, _, _, u4, _, hwr5, _, hkd, _, .inr ⟨b, .inl ⟨id, cap, true, hlk, _, hwr, cnd_f ⟨_, _, _, _, _, _, htr, _, _, _, _, _, _, _, hnd, _, .inr ⟨b, .inl ⟨id, cap, hrw, _, _, h7, cnd_f nx⟩⟩⟩⟩⟩⟩
    · subst e
      exact ⟨_, _, u1, _, _, _, _, _, _, _, u4, _, hwr5, _, hkd, _, .inl ⟨g0, cap0, b, .inl ⟨id, cap, true, hlk, _, hwr, cnd_f ⟨_, _, _, _, _, _, htr, _, _, _, _, _, _, _, hnd, _, .inl ⟨g0, cap0, b, .inl ⟨id, cap, hrw, _, _, h7, cnd_f nx⟩⟩⟩⟩⟩⟩) (n := nds.length) (d := []) (rc := false) (M := M3) ⟨rfl, rfl, rfl, .refl _, 0, rfl, by simp⟩ hT with ⟨a2, n2, c2, M4, hL, rfl, rfl, rfl, k4⟩ | ⟨_, _, _, _, _, _, _, h⟩
  · obtain ⟨M5, h5, k5⟩ := depth_ret (hT0.keep (kAll.trans k4)) hn hkn hkk
    exact ⟨_, _, _, M4, hL, fun _ => ⟨_, _, _, _, _, _, (hA3.keep k4).rdA k32 s32, _, _, h5, _, _, rfl, (kAll.trans k4).trans k5, (hS3.keep k4).keep k5⟩⟩
  · exact h.elim

end Go.Proofs.YtabkcbaknjenmaaAM

/-
  THE NODE LAWS: what a tree's plan says of its sizes, its defs, its depth.
-/
set_option linter.unusedVariables false
set_option linter.unusedSimpArgs false
namespace Go.Proofs.YtabkcbaknjenmaaAM
open Go Go.Proofs
set_option maxRecDepth 100000
set_option maxHeartbeats 4000000

/-- A tree's plan that is right, no def higher than H. -/
structure GoodT (ns : List GN) (defs : List Nat) (H : Nat) : Prop where
  ok : ∀ i n, ns[i]? = some n → OkN ns i n
  whole : Fits ns H (fun _ kk => kk = 13) 0 0 defs ns.length
  len : ns.length ≤ 300000
  dl : defs.length ≤ 10
def szL (ns : List GN) : List Int := ns.map fun n => Int.ofNat n.size
theorem Fits.le {ns : List GN} {H : Nat} {P : Nat → Nat → Prop} : ∀ {ks : List Nat} {fr j to : Nat}, Fits ns H P fr j ks to → fr ≤ to ∧ ∀ k ∈ ks, fr ≤ k ∧ k < to
  | [], fr, j, to, h => by
    have h : fr = to := h
    exact ⟨by omega, fun k hk => by simp at hk⟩
  | k :: ks, fr, j, to, ⟨n, h1, h2, h3, h4, h5, h6⟩ => by
    obtain ⟨g1, g2⟩ := h6.le
    refine ⟨by omega, fun q hq => ?_⟩
    rcases List.mem_cons.1 hq with rfl | hq
    · omega
    · have := g2 q hq; omega
theorem Fits.nth {ns : List GN} {H : Nat} {P : Nat → Nat → Prop} : ∀ {ks : List Nat} {fr j to : Nat}, Fits ns H P fr j ks to → ∀ (q : Nat) (hq : q < ks.length), ∃ n, ns[ks[q]]? = some n ∧ P (j + q) n.kind ∧ n.ht ≤ H
  | k :: ks, fr, j, to, ⟨n, h1, h2, h3, h4, h5, h6⟩, 0, hq => ⟨n, h1, h4, h5⟩
  | k :: ks, fr, j, to, ⟨n, h1, h2, h3, h4, h5, h6⟩, q + 1, hq => by
    obtain ⟨m, g1, g2, g3⟩ := h6.nth q (by simpa using hq)
    exact ⟨m, g1, by rw [show j + (q + 1) = j + 1 + q by omega]; exact g2, g3⟩
theorem Fits.szK {ns : List GN} {H : Nat} {P : Nat → Nat → Prop} {l : List Int} {i : Nat} : ∀ {ks : List Nat} {fr j to : Nat}, Fits ns H P fr j ks to → (∀ k n, k < to → ns[k]? = some n → l[k]? = some (Int.ofNat n.size)) → ∀ (tail : List Int) (s : Int), (to : Int) = i + 1 - s →
    szK l i ((ks.map Int.ofNat).reverse ++ tail) s = szK l i tail (s + ((to : Int) - fr))
  | [], fr, j, to, h, hl, tail, s, hs => by
    have h : fr = to := h
    subst h
    simp
  | k :: ks, fr, j, to, ⟨n, h1, h2, h3, h4, h5, h6⟩, hl, tail, s, hs => by
    have hle := h6.le.1
    have e : ((k :: ks).map Int.ofNat).reverse ++ tail = (ks.map Int.ofNat).reverse ++ (Int.ofNat k :: tail) := by simp
    rw [e, h6.szK hl (Int.ofNat k :: tail) s hs]
    have hk : (Int.ofNat k) = (i : Int) - (s + ((to : Int) - ((k + 1 : Nat) : Int))) := by show (k : Int) = _; omega
    have hk0 : 0 ≤ Int.ofNat k := Int.natCast_nonneg k
    rw [szK_yes (z := Int.ofNat n.size) hk0 hk (hl k n (by omega) h1)]
    congr 1
    show s + ((to : Int) - ((k + 1 : Nat) : Int)) + (n.size : Int) = _
    omega
theorem Fits.whK {ns : List GN} {H : Nat} : ∀ {ks : List Nat} {fr j to : Nat}, Fits ns H (fun _ kk => kk = 13) fr j ks to → ∀ (tail : List Int), whK (ndOf 0 ns) (szL ns) ((ks.map Int.ofNat).reverse ++ tail) to = whK (ndOf 0 ns) (szL ns) tail fr
  | [], fr, j, to, h, tail => by
    have h : fr = to := h
    subst h; rfl
  | k :: ks, fr, j, to, ⟨n, h1, h2, h3, h4, h5, h6⟩, tail => by
    have e : ((k :: ks).map Int.ofNat).reverse ++ tail = (ks.map Int.ofNat).reverse ++ (Int.ofNat k :: tail) := by simp
    rw [e, h6.whK (Int.ofNat k :: tail)]
    obtain ⟨hk, rfl⟩ := List.getElem?_eq_some_iff.1 h1
    have hz : (szL ns)[(Int.ofNat k).toNat]? = some (Int.ofNat ns[k].size) := by
      show (szL ns)[k]? = _
      simp [szL, hk]
    have hk0 : 0 ≤ Int.ofNat k := Int.natCast_nonneg k
    rw [whK_yes hk0 (by show (k : Int) = ((k + 1 : Nat) : Int) - 1; omega) (ndOf_get ns 0 k hk) hz (by show Int.ofNat ns[k].kind = 13; rw [h4]; rfl)]
    congr 1
    show ((k + 1 : Nat) : Int) - (ns[k].size : Int) = _
    omega
theorem szL_len (ns : List GN) : (szL ns).length = ns.length := by simp [szL]
theorem GoodT.sizes {ns : List GN} {defs : List Nat} {H : Nat} (h : GoodT ns defs H) : sizesG (ndOf 0 ns) [] = some (szL ns) := by
  have key : ∀ m i, i + m = ns.length → sizesG ((ndOf 0 ns).drop i) ((szL ns).take i) = some (szL ns) := by
    intro m
    induction m with
    | zero =>
      intro i hi
      rw [List.drop_eq_nil_of_le (by rw [ndOf_len]; omega), List.take_of_length_le (by rw [szL_len]; omega)]
      rfl
    | succ m ih =>
      intro i hi
      have hlt : i < (ndOf 0 ns).length := by rw [ndOf_len]; omega
      have hlt2 : i < ns.length := by omega
      have hget := ndOf_get ns 0 i hlt2
      rw [List.getElem?_eq_getElem hlt] at hget
      injection hget with hget
      rw [List.drop_eq_getElem_cons hlt, sizesG, hget]
      have hO := h.ok i ns[i] (List.getElem?_eq_getElem hlt2)
      obtain ⟨ss, h1, h2⟩ := hO.ks
      have hlen : ((szL ns).take i).length = i := by rw [List.length_take, szL_len]; omega
      have hsz := hO.sz
      have hz := h2.szK (l := (szL ns).take i) (i := i) (fun k n hk hn => by
        obtain ⟨hk2, rfl⟩ := List.getElem?_eq_some_iff.1 hn
        rw [List.getElem?_take, if_pos hk]
        simp [szL, hk2]) [] 1 (by omega)
      rw [List.append_nil] at hz
      dsimp only
      rw [hlen, hz]
      simp only [szK]
      have e : (1 : Int) + ((i : Int) - ((i + 1 - ns[i].size : Nat) : Int)) = Int.ofNat ns[i].size := by
        show _ = (ns[i].size : Int); omega
      rw [e]
      have ht : (szL ns).take i ++ [Int.ofNat ns[i].size] = (szL ns).take (i + 1) := by
        rw [List.take_succ_eq_append_getElem (by rw [szL_len]; exact hlt2)]
        simp [szL]
      rw [ht]
      exact ih (i + 1) (by omega)
  have := key ns.length 0 (by omega)
  simpa using this
theorem GoodT.wholes {ns : List GN} {defs : List Nat} {H : Nat} (h : GoodT ns defs H) : wholeS (ndOf 0 ns) (szL ns) (defs.map Int.ofNat) = true := by
  have := h.whole.whK []
  rw [List.append_nil] at this
  unfold wholeS
  rw [ndOf_len, this]; rfl
theorem kidsS_some {i : Int} {nm ar : ByteArray} {n : Nat} {ss : List Int} (h : kidsS i nm ar n = some ss) : ss.length = n := by
  unfold kidsS at h
  cases hc : (leF (Int.ofNat 0) i && (leF i (Int.ofNat 35) && (namedS i nm ar && ((sortsS i nm n).2 && Nat.beq (sortsS i nm n).1.length n)))) with
  | false => rw [hc] at h; simp at h
  | true =>
    rw [hc] at h
    simp only [cond_true, Option.some.injEq] at h
    simp only [Bool.and_eq_true] at hc
    rw [← h]
    exact Nat.eq_of_beq_eq_true hc.2.2.2.2
theorem mem_ndOf {ns : List GN} {n : Nd} (h : n ∈ ndOf 0 ns) : ∃ k, ∃ hk : k < ns.length, n = ⟨Int.ofNat ns[k].kind, ns[k].name, ns[k].arg, ns[k].kids.map Int.ofNat, Int.ofNat k⟩ := by
  obtain ⟨k, hk, rfl⟩ := List.getElem_of_mem h
  have hk2 : k < ns.length := by rw [ndOf_len] at hk; exact hk
  refine ⟨k, hk2, ?_⟩
  have := ndOf_get ns 0 k hk2
  rw [List.getElem?_eq_getElem hk, Nat.zero_add] at this
  injection this
theorem nd_at {ns : List GN} {k : Nat} (hk : k < ns.length) (h : k < (ndOf 0 ns).length) : (ndOf 0 ns)[k] = ⟨Int.ofNat ns[k].kind, ns[k].name, ns[k].arg, ns[k].kids.map Int.ofNat, Int.ofNat k⟩ := by
  have := ndOf_get ns 0 k hk
  rw [List.getElem?_eq_getElem h, Nat.zero_add] at this
  injection this
theorem OkN.fit {ns : List GN} {i : Nat} {n : GN} (h : OkN ns i n) (p : Int) : KidsFit (ndOf 0 ns) ⟨Int.ofNat n.kind, n.name, n.arg, n.kids.map Int.ofNat, p⟩ := by
  obtain ⟨ss, h1, h2⟩ := h.ks
  refine ⟨ss, by simpa using h1, by simpa using kidsS_some h1, fun j hj => ?_⟩
  have hj : j < n.kids.length := by simpa using hj
  obtain ⟨m, g1, g2, g3⟩ := h2.nth j hj
  rw [Nat.zero_add] at g2
  obtain ⟨hk, rfl⟩ := List.getElem?_eq_some_iff.1 g1
  refine ⟨n.kids[j], by rw [ndOf_len]; exact hk, by simp, ?_, fun e1 e2 => ?_, fun e1 e2 => ?_⟩
  · rw [nd_at hk]; exact g2.1
  · rw [nd_at hk]
    show Int.ofNat ns[n.kids[j]].kind = 1
    rw [g2.2.1 (Int.ofNat.inj e1) e2]; rfl
  · rw [nd_at hk]
    show Int.ofNat ns[n.kids[j]].kind = 16
    rw [g2.2.2 (Int.ofNat.inj e1) e2]; rfl

/-- Roots that stand one behind the other, the last one first. -/
def Cover (ns : List GN) (Q : Nat → GN → Prop) : Nat → List Nat → Prop
  | to, [] => to = 0
  | to, r :: rs => r + 1 = to ∧ ∃ n, ns[r]? = some n ∧ 1 ≤ n.size ∧ n.size ≤ r + 1 ∧ Q r n ∧ Cover ns Q (r + 1 - n.size) rs
theorem Cover.lt {ns : List GN} {Q : Nat → GN → Prop} : ∀ {rs : List Nat} {to : Nat}, Cover ns Q to rs → ∀ r ∈ rs, r < to
  | [], _, _, r, hr => by simp at hr
  | q :: rs, to, ⟨h1, n, h2, h3, h4, h5, h6⟩, r, hr => by
    rcases List.mem_cons.1 hr with rfl | hr
    · omega
    · have := h6.lt r hr; omega
theorem Cover.mono {ns : List GN} {Q Q' : Nat → GN → Prop} : ∀ {rs : List Nat} {to : Nat}, Cover ns Q to rs → (∀ r n, r < to → ns[r]? = some n → Q r n → Q' r n) → Cover ns Q' to rs
  | [], _, h, _ => h
  | q :: rs, to, ⟨h1, n, h2, h3, h4, h5, h6⟩, hm => ⟨h1, n, h2, h3, h4, hm _ _ (by omega) h2 h5, h6.mono fun r m hr => hm r m (by omega)⟩
theorem Fits.cover {ns : List GN} {H : Nat} {P : Nat → Nat → Prop} {Q : Nat → GN → Prop} : ∀ {ks : List Nat} {fr j to : Nat} {rs : List Nat}, Fits ns H P fr j ks to → Cover ns Q fr rs → (∀ k ∈ ks, ∀ n, ns[k]? = some n → n.ht ≤ H → Q k n) → Cover ns Q to (ks.reverse ++ rs)
  | [], fr, j, to, rs, h, hc, hq => by
    have h : fr = to := h
    subst h; exact hc
  | k :: ks, fr, j, to, rs, ⟨n, h1, h2, h3, h4, h5, h6⟩, hc, hq => by
    rw [List.reverse_cons, List.append_assoc]
    exact h6.cover ⟨rfl, n, h1, h3, by omega, hq k List.mem_cons_self n h1 h5, by rw [show k + 1 - n.size = fr by omega]; exact hc⟩ fun k' hk' => hq k' (List.mem_cons_of_mem _ hk')
theorem setAll_kid (v : Int) : ∀ (ks dl : List Int) (k : Int), k ∈ ks → k.toNat < dl.length → (setAll v dl ks).getD k.toNat 0 = v
  | q :: ks, dl, k, h, hl => by
    by_cases hk : ∃ k' ∈ ks, k'.toNat = k.toNat
    · obtain ⟨k', h1, h2⟩ := hk
      rw [setAll, ← h2]
      exact setAll_kid v ks _ k' h1 (by rw [List.length_set, h2]; exact hl)
    · have hne : ∀ k' ∈ ks, k'.toNat ≠ k.toNat := fun k' h1 h2 => hk ⟨k', h1, h2⟩
      rw [setAll, List.getD, setAll_at v ks _ _ hne]
      rcases List.mem_cons.1 h with rfl | h
      · simp [hl]
      · exact absurd rfl (hne k h)
theorem depth_le {ns : List GN} (hok : ∀ i n, ns[i]? = some n → OkN ns i n) (B : Int) : ∀ (i : Nat) (rs : List Nat) (dl : List Int) (most : Int), i ≤ ns.length → dl.length = ns.length → Cover ns (fun r n => dl.getD r 0 + (n.ht : Int) ≤ B) i rs → most ≤ B → (depthG (ndOf 0 ns) i (dl, most)).2 ≤ B
  | 0, rs, dl, most, hi, hl, hc, hm => hm
  | i + 1, rs, dl, most, hi, hl, hc, hm => by
    have hlt : i < ns.length := by omega
    rw [depthG, ndOf_get ns 0 i hlt]
    dsimp only
    have hO := hok i ns[i] (List.getElem?_eq_getElem hlt)
    cases rs with
    | nil =>
      have : i + 1 = 0 := hc
      omega
    | cons r rs =>
      obtain ⟨h1, n, h2, h3, h4, h5, h6⟩ := hc
      have hr : r = i := by omega
      subst hr
      rw [List.getElem?_eq_getElem hlt] at h2
      injection h2 with h2
      subst h2
      obtain ⟨ss, g1, g2⟩ := hO.ks
      have hh := hO.h
      have hle := g2.le
      rw [depthStep]
      dsimp only
      refine depth_le hok B r _ _ _ (by omega) (by rw [setAll_len]; simpa using hl) (g2.cover (h6.mono fun q m hq hqm hQ => ?_) fun k hk m hkm hht => ?_) ?_
      · rw [List.getD, setAll_at _ _ _ _ (fun k' hk' => by
          obtain ⟨k2, hk2, rfl⟩ := List.mem_map.1 hk'
          have := hle.2 k2 hk2
          show k2 ≠ q
          omega), List.getElem?_set_ne (by omega)]
        exact hQ
      · have := setAll_kid (dl.getD r 0 + 1) (ns[r].kids.map Int.ofNat) (dl.set r (dl.getD r 0 + 1)) (Int.ofNat k) (List.mem_map_of_mem hk) (by
          have := hle.2 k hk
          show k < _
          simp; omega)
        have e : (Int.ofNat k).toNat = k := rfl
        rw [e] at this
        rw [this]
        omega
      · split <;> omega
theorem GoodT.depth {ns : List GN} {defs : List Nat} {H : Nat} (h : GoodT ns defs H) : depthS (ndOf 0 ns) ≤ (H : Int) := by
  unfold depthS
  rw [ndOf_len]
  refine depth_le h.ok _ _ (defs.reverse ++ []) _ _ (Nat.le_refl _) (by simp) (h.whole.cover rfl fun k hk n hn hh => ?_) (by omega)
  have : (List.replicate ns.length (0 : Int)).getD k 0 = 0 := by
    simp only [List.getD, List.getElem?_replicate]
    split <;> rfl
  rw [this]
  omega

end Go.Proofs.YtabkcbaknjenmaaAM
