/-
  Part KB1 of the proof: merged texts.
-/
import Derived.Test.YtabkcbaknjenmaaKA3
import Derived.Test.YtabkcbaknjenmaaRows

/-
  THE NODE LAWS: what is to be shown for functions, printed by a program: lex, slices, reference 5
-/
set_option linter.unusedVariables false
namespace Go.Proofs.YtabkcbaknjenmaaAM
open Go Go.Proofs
set_option maxRecDepth 100000
set_option maxHeartbeats 4000000
def ann103 : Ann := [([1, 0, 1, 0, 0, 1, 1, 0, 1, 1, 0, 1, 0], [0, 1, 5, 6, 11, 17, 7], [(some 2, [(7, some 4)])]), ([1, 0, 1, 0], [0, 1, 11], [(some 0, []), (none, [(4, some 9)])])]
def ann71 : Ann := [([1, 0, 1, 0], [0, 1, 7, 8], [(some 0, []), (none, [(4, some 3)])])]
def ann41 : Ann := [([1, 0, 1, 0], [0, 1, 5], [(some 0, []), (none, [(4, some 4)])])]
def ann72 : Ann := [([1, 1, 1, 0, 0], [0, 1, 5], [(some 0, [(5, some 3)])])]
def ann92 : Ann := [([1, 1, 1, 1, 0, 0], [0, 1, 6, 5], [(some 0, [(5, some 3)])])]
theorem w103 {p0 p1 : ByteArray} {M : Mem} {K : Value → Mem → Prop} (h : ∀ (t0 : List Value),
 TIn 32 [(0, .string p0), (1, .string p1), (11, .pointer (some (.mk (List.length M) 0 none)))] t0 →
 (∃ (M1 : Mem), LpT Try.prog (Env.fn 103) [1, 0, 1, 0] t0 [] (M ++ [AObj.siter p0 0]) false (.exit 0) [] M1 ∧ ∀ (w2 : Nat → Value), K (.string (ByteArray.mk #[])) M1) ∨
 ∃ (s3 : ByteArray),
 ∃ (M4 : Mem), LpT Try.prog (Env.fn 103) [1, 0, 1, 0] t0 [] (M ++ [AObj.siter p0 0]) false .ret [(4, .string s3)] M4 ∧ ∀ (w5 : Nat → Value), K (.string s3) M4) :
 Held (wpRet Try.prog 103 true ann103 [.string p0, .string p1] M K) := held_of (by kernel_rfl) h
theorem loop103_0 {ut0 ut1 : ByteArray} {ut11 : Nat} {d : List ADef} {rc : Bool} (Inv : Nat → Mem → Prop) (R0 : Mem → Prop) (R1 : ByteArray → Mem → Prop)
 (step : ∀ (n : Nat) (M : Mem), Inv n M →
 ∃ (s0 : ByteArray),
 ∃ (n1 : Nat),
 M[ut11]? = some (AObj.siter s0 n1) ∧
 cnd (Nat.blt n1 (ByteArray.size s0))
 (∀ (t4 : List Value),
 TIn 32
 [(0, .string ut0), (1, .string ut1), (5, .int .i64 (Int.ofNat n1)), (6, .int .i32 (Int.ofNat (Prod.fst (Utf8.decode s0 n1)))),
 (11, .pointer (some (.mk ut11 0 none))),
 (17, .pointer (some (.mk (List.length (List.set M ut11 (AObj.siter s0 (n1 + Prod.snd (Utf8.decode s0 n1))))) 0 none))), (7, .bool false)]
 t4 →
 ∃ (b5 : Bool),
 ∃ (M6 : Mem),
 LpT Try.prog (Env.fn 103) [1, 0, 1, 0, 0, 1, 1, 0, 1, 1, 0, 1, 0] t4 d (List.set M ut11 (AObj.siter s0 (n1 + Prod.snd (Utf8.decode s0 n1))) ++ [AObj.siter ut1 0]) rc
 (.exit 2) [(7, .bool b5)] M6 ∧
 ∀ (w7 : Nat → Value),
 cnd (!b5) (∃ (s8 : ByteArray), sliceA Try.prog M6 9 (.string ut0) (some (Value.int .i64 (Int.ofNat n1))) none none = some (.string s8) ∧ R1 s8 M6)
 (∃ (n9 : Nat), n9 < n ∧ Inv n9 M6))
 (R0 M) )
 {n : Nat} {M : Mem} (h0 : Inv n M) {t0 : List Value} (hT : TIn 32 [(0, .string ut0), (1, .string ut1), (11, .pointer (some (.mk ut11 0 none)))] t0) :
 (∃ (M' : Mem), LpT Try.prog (Env.fn 103) [1, 0, 1, 0] t0 d M rc (.exit 0) [] M' ∧ R0 M') ∨ (∃ (ot4 : ByteArray) (M' : Mem), LpT Try.prog (Env.fn 103) [1, 0, 1, 0] t0 d M rc .ret [(4, .string ot4)] M' ∧ R1 ot4 M') := by
 rcases loopT (P := Try.prog) (E := (Env.fn 103)) (sym := true) (ann := ann103) (p := [1, 0, 1, 0]) (stepC (codeOf Try.prog 103 [1, 0, 1, 0]) 0) (by kernel_rfl) (by kernel_rfl) [(0, .string ut0), (1, .string ut1), (11, .pointer (some (.mk ut11 0 none)))] [] (by kernel_rfl) (fun n xs M => match xs with | [] => Inv n M | _ => False) [((.exit 0), [], fun xs M => match xs with | [] => R0 M | _ => False), (.ret, [4], fun xs M => match xs with | [.string ot4] => R1 ot4 M | _ => False)] (fun n xs M h uu => by split at h <;> first | exact h.elim | exact (held_of (by kernel_rfl) (step n M h)).ok) (xs := []) hT rfl h0 with ⟨_, _, h, g⟩ | ⟨_, _, h, g⟩
 · split at g <;> first | exact (.inl ⟨_, h, g⟩) | exact g.elim
 · split at g <;> first | exact (.inr ⟨_, _, h, g⟩) | exact g.elim

theorem loop103_1 {ut0 ut1 : ByteArray} {ut5 ut6 : Int} {ut11 ut17 : Nat} {d : List ADef} {rc : Bool} (Inv : Nat → Bool → Mem → Prop) (R0 : Bool → Mem → Prop)
 (step : ∀ (n : Nat) (t7 : Bool) (M : Mem), Inv n t7 M →
 ∃ (s0 : ByteArray),
 ∃ (n1 : Nat),
 M[ut17]? = some (AObj.siter s0 n1) ∧
 cnd (Nat.blt n1 (ByteArray.size s0))
 (cnd t7 (∃ (n4 : Nat), n4 < n ∧ Inv n4 true (List.set M ut17 (AObj.siter s0 (n1 + Prod.snd (Utf8.decode s0 n1)))))
 (∃ (n5 : Nat), n5 < n ∧ Inv n5 (eqF ut6 (Int.ofNat (Prod.fst (Utf8.decode s0 n1)))) (List.set M ut17 (AObj.siter s0 (n1 + Prod.snd (Utf8.decode s0 n1))))))
 (R0 t7 M) )
 {n : Nat} {t7 : Bool} {M : Mem} (h0 : Inv n t7 M) {t0 : List Value} (hT : TIn 32 [(0, .string ut0), (1, .string ut1), (5, .int .i64 ut5), (6, .int .i32 ut6), (11, .pointer (some (.mk ut11 0 none))), (17, .pointer (some (.mk ut17 0 none))), (7, .bool t7)] t0) :
 (∃ (ot7 : Bool) (M' : Mem), LpT Try.prog (Env.fn 103) [1, 0, 1, 0, 0, 1, 1, 0, 1, 1, 0, 1, 0] t0 d M rc (.exit 2) [(7, .bool ot7)] M' ∧ R0 ot7 M') := by
 rcases loopT (P := Try.prog) (E := (Env.fn 103)) (sym := true) (ann := ann103) (p := [1, 0, 1, 0, 0, 1, 1, 0, 1, 1, 0, 1, 0]) (stepC (codeOf Try.prog 103 [1, 0, 1, 0, 0, 1, 1, 0, 1, 1, 0, 1, 0]) 0) (by kernel_rfl) (by kernel_rfl) [(0, .string ut0), (1, .string ut1), (5, .int .i64 ut5), (6, .int .i32 ut6), (11, .pointer (some (.mk ut11 0 none))), (17, .pointer (some (.mk ut17 0 none)))] [7] (by kernel_rfl) (fun n xs M => match xs with | [.bool t7] => Inv n t7 M | _ => False) [((.exit 2), [7], fun xs M => match xs with | [.bool ot7] => R0 ot7 M | _ => False)] (fun n xs M h uu => by split at h <;> first | exact h.elim | exact (held_of (by kernel_rfl) (step n _ M h)).ok) (xs := [.bool t7]) hT rfl h0 with ⟨_, _, h, g⟩
 · split at g <;> first | exact ⟨_, _, h, g⟩ | exact g.elim

theorem w87 {p0 p1 : ByteArray} {M : Mem} {K : Value → Mem → Prop} (h : ∃ (s0 : ByteArray),
 ∃ (M1 : Mem),
 Ret Try.prog 103 [.string p0, .string p1] M (.string s0) M1 ∧
 K (.int .i64 (wrapF .i64 (Int.sub (Int.ofNat (ByteArray.size p0)) (Int.ofNat (ByteArray.size s0))))) M1) :
 Held (wpRet Try.prog 87 true [] [.string p0, .string p1] M K) := held_of (by kernel_rfl) h
theorem w70 {p0 : ByteArray} {M : Mem} {K : Value → Mem → Prop} (h : cnd (eqS p0 (ByteArray.mk #[])) (K (.int .i64 (Int.ofNat 0)) M)
 (∃ (s0 : ByteArray),
 sliceA Try.prog M 9 (.string p0) none (some (Value.int .i64 (Int.ofNat 1))) none = some (.string s0) ∧
 ∃ (i1 : Int),
 ∃ (M2 : Mem),
 Ret Try.prog 87
 [.string s0,
 .string
 (ByteArray.mk
 #[97, 98, 99, 100, 101, 102, 103, 104, 105, 106, 107, 108, 109, 110, 111, 112, 113, 114, 115, 116, 117, 118, 119, 120, 121, 122, 65, 66, 67, 68, 69, 70, 71, 72, 73, 74,
 75, 76, 77, 78, 79, 80, 81, 82, 83, 84, 85, 86, 87, 88, 89, 90])]
 M (.int .i64 i1) M2 ∧
 cnd (eqF i1 (Int.ofNat 0)) (K (.int .i64 (Int.ofNat 0)) M2)
 (∃ (i3 : Int),
 ∃ (M4 : Mem),
 Ret Try.prog 87
 [.string p0,
 .string
 (ByteArray.mk
 #[97, 98, 99, 100, 101, 102, 103, 104, 105, 106, 107, 108, 109, 110, 111, 112, 113, 114, 115, 116, 117, 118, 119, 120, 121, 122, 65, 66, 67, 68, 69, 70, 71, 72,
 73, 74, 75, 76, 77, 78, 79, 80, 81, 82, 83, 84, 85, 86, 87, 88, 89, 90, 48, 49, 50, 51, 52, 53, 54, 55, 56, 57, 95])]
 M2 (.int .i64 i3) M4 ∧
 ∃ (s5 : ByteArray),
 sliceA Try.prog M4 9 (.string p0) (some (Value.int .i64 i3)) none none = some (.string s5) ∧
 ∃ (b6 : Bool),
 ∃ (M7 : Mem),
 Ret Try.prog 93 [.string s5, .string (ByteArray.mk #[63])] M4 (.bool b6) M7 ∧
 cnd b6 (K (.int .i64 (wrapF .i64 (Int.add i3 (Int.ofNat 1)))) M7) (K (.int .i64 i3) M7)))) :
 Held (wpRet Try.prog 70 true [] [.string p0] M K) := held_of (by kernel_rfl) h
theorem w37 {p0 : ByteArray} {M : Mem} {K : Value → Mem → Prop} (h : cnd (!eqS p0 (ByteArray.mk #[])) (∃ (i0 : Int), ∃ (M1 : Mem), Ret Try.prog 70 [.string p0] M (.int .i64 i0) M1 ∧ K (.bool (eqF i0 (Int.ofNat (ByteArray.size p0)))) M1)
 (K (.bool false) M)) :
 Held (wpRet Try.prog 37 true [] [.string p0] M K) := held_of (by kernel_rfl) h
theorem w58 {p0 : ByteArray} {M : Mem} {K : Value → Mem → Prop} (h : ∃ (s0 : ByteArray),
 ∃ (b1 : Bool),
 ∃ (M2 : Mem),
 Ret Try.prog 86 [.string p0, .string (ByteArray.mk #[45])] M (.tuple (Array.mk [.string s0, .bool b1])) M2 ∧
 cnd (eqS s0 (ByteArray.mk #[])) (K (.bool false) M2)
 (∃ (i3 : Int),
 ∃ (M4 : Mem),
 Ret Try.prog 87 [.string s0, .string (ByteArray.mk #[48, 49, 50, 51, 52, 53, 54, 55, 56, 57])] M2 (.int .i64 i3) M4 ∧
 cnd (!eqF i3 (Int.ofNat (ByteArray.size s0))) (K (.bool false) M4)
 (∃ (i5 : Int),
 indexA Try.prog 9 (.string s0) (.int .i64 (Int.ofNat 0)) = some (.int .u8 i5) ∧
 cnd (!eqF i5 (Int.ofNat 48)) (K (.bool true) M4) (cnd (eqS s0 (ByteArray.mk #[48])) (K (.bool !b1) M4) (K (.bool false) M4))))) :
 Held (wpRet Try.prog 58 true [] [.string p0] M K) := held_of (by kernel_rfl) h
theorem w86 {p0 p1 : ByteArray} {M : Mem} {K : Value → Mem → Prop} (h : ∃ (s0 : ByteArray),
 ∃ (b1 : Bool),
 ∃ (M2 : Mem),
 Ret Try.prog 102 [.string p0, .string p1] M (.tuple (Array.mk [.string s0, .bool b1])) M2 ∧ K (.tuple (Array.mk [.string s0, .bool b1])) M2) :
 Held (wpRet Try.prog 86 true [] [.string p0, .string p1] M K) := held_of (by kernel_rfl) h
theorem w102 {p0 p1 : ByteArray} {M : Mem} {K : Value → Mem → Prop} (h : ∃ (b0 : Bool),
 ∃ (M1 : Mem),
 Ret Try.prog 104 [.string p0, .string p1] M (.bool b0) M1 ∧
 cnd (!b0) (K (.tuple (Array.mk [.string p0, .bool false])) M1)
 (∃ (s2 : ByteArray),
 sliceA Try.prog M1 9 (.string p0) (some (Value.int .i64 (Int.ofNat (ByteArray.size p1)))) none none = some (.string s2) ∧
 K (.tuple (Array.mk [.string s2, .bool true])) M1)) :
 Held (wpRet Try.prog 102 true [] [.string p0, .string p1] M K) := held_of (by kernel_rfl) h
theorem w93 {p0 p1 : ByteArray} {M : Mem} {K : Value → Mem → Prop} (h : ∃ (b0 : Bool), ∃ (M1 : Mem), Ret Try.prog 104 [.string p0, .string p1] M (.bool b0) M1 ∧ K (.bool b0) M1) :
 Held (wpRet Try.prog 93 true [] [.string p0, .string p1] M K) := held_of (by kernel_rfl) h
theorem w104 {p0 p1 : ByteArray} {M : Mem} {K : Value → Mem → Prop} (h : cnd (leF (Int.ofNat (ByteArray.size p1)) (Int.ofNat (ByteArray.size p0)))
 (∃ (s0 : ByteArray), sliceA Try.prog M 9 (.string p0) none (some (Value.int .i64 (Int.ofNat (ByteArray.size p1)))) none = some (.string s0) ∧ K (.bool (eqS s0 p1)) M)
 (K (.bool false) M)) :
 Held (wpRet Try.prog 104 true [] [.string p0, .string p1] M K) := held_of (by kernel_rfl) h
theorem w16 {p0 : ByteArray} {M : Mem} {K : Value → Mem → Prop} (h : ∃ (b0 : Bool),
 ∃ (M1 : Mem),
 Ret Try.prog 37 [.string p0] M (.bool b0) M1 ∧
 cnd b0
 (∃ (i2 : Int),
 indexA Try.prog 9 (.string p0) (.int .i64 (wrapF .i64 (Int.sub (Int.ofNat (ByteArray.size p0)) (Int.ofNat 1)))) = some (.int .u8 i2) ∧
 cnd (!eqF i2 (Int.ofNat 63))
 (∃ (a3 : Option Addr),
 ∃ (n4 : Nat),
 ∃ (n5 : Nat),
 ∃ (M6 : Mem),
 Ret Try.prog 39 [] M1 (.slice a3 n4 n5) M6 ∧
 ∃ (b7 : Bool), ∃ (M8 : Mem), Ret Try.prog 38 [.slice a3 n4 n5, .string p0] M6 (.bool b7) M8 ∧ K (.bool !b7) M8)
 (K (.bool false) M1))
 (K (.bool false) M1)) :
 Held (wpRet Try.prog 16 true [] [.string p0] M K) := held_of (by kernel_rfl) h
theorem w38 {p0 : Option Addr} {p0n p0c : Nat} {p1 : ByteArray} {M : Mem} {K : Value → Mem → Prop} (h : ∃ (i0 : Int), ∃ (M1 : Mem), Ret Try.prog 71 [.slice p0 p0n p0c, .string p1] M (.int .i64 i0) M1 ∧ K (.bool (leF (Int.ofNat 0) i0)) M1) :
 Held (wpRet Try.prog 38 true [] [.slice p0 p0n p0c, .string p1] M K) := held_of (by kernel_rfl) h
theorem w71 {p0 : Option Addr} {p0n p0c : Nat} {p1 : ByteArray} {M : Mem} {K : Value → Mem → Prop} (h : ∀ (t0 : List Value),
 TIn 19 [(0, .slice p0 p0n p0c), (1, .string p1), (7, .int .i64 (Int.ofNat p0n)), (8, .int .i64 (Int.ofNat 0))] t0 →
 (∃ (M1 : Mem), LpT Try.prog (Env.fn 71) [1, 0, 1, 0] t0 [] M false (.exit 0) [] M1 ∧ ∀ (w2 : Nat → Value), K (.int .i64 (Int.negSucc 0)) M1) ∨
 ∃ (i3 : Int), ∃ (M4 : Mem), LpT Try.prog (Env.fn 71) [1, 0, 1, 0] t0 [] M false .ret [(4, .int .i64 i3)] M4 ∧ ∀ (w5 : Nat → Value), K (.int .i64 i3) M4) :
 Held (wpRet Try.prog 71 true ann71 [.slice p0 p0n p0c, .string p1] M K) := held_of (by kernel_rfl) h
theorem loop71_0 {ut0 : Option Addr} {ut0n ut0c : Nat} {ut1 : ByteArray} {ut7 : Int} {d : List ADef} {rc : Bool} (Inv : Nat → Int → Mem → Prop) (R0 : Mem → Prop) (R1 : Int → Mem → Prop)
 (step : ∀ (n : Nat) (t8 : Int) (M : Mem), Inv n t8 M →
 cnd (!leF ut7 t8)
 (∃ (n0 : Nat),
 ∃ (n1 : Nat),
 idxA Try.prog 53 (.slice ut0 ut0n ut0c) (.int .i64 t8) = some (.pointer (some (.mk n0 n1 none))) ∧
 ∃ (s2 : ByteArray), rdVar Try.prog M 9 n0 n1 = some (.string s2) ∧ cnd (eqS ut1 s2) (R1 t8 M) (∃ (n3 : Nat), n3 < n ∧ Inv n3 (wrapF .i64 (Int.add t8 (Int.ofNat 1))) M))
 (R0 M) )
 {n : Nat} {t8 : Int} {M : Mem} (h0 : Inv n t8 M) {t0 : List Value} (hT : TIn 19 [(0, .slice ut0 ut0n ut0c), (1, .string ut1), (7, .int .i64 ut7), (8, .int .i64 t8)] t0) :
 (∃ (M' : Mem), LpT Try.prog (Env.fn 71) [1, 0, 1, 0] t0 d M rc (.exit 0) [] M' ∧ R0 M') ∨ (∃ (ot4 : Int) (M' : Mem), LpT Try.prog (Env.fn 71) [1, 0, 1, 0] t0 d M rc .ret [(4, .int .i64 ot4)] M' ∧ R1 ot4 M') := by
 rcases loopT (P := Try.prog) (E := (Env.fn 71)) (sym := true) (ann := ann71) (p := [1, 0, 1, 0]) (stepC (codeOf Try.prog 71 [1, 0, 1, 0]) 0) (by kernel_rfl) (by kernel_rfl) [(0, .slice ut0 ut0n ut0c), (1, .string ut1), (7, .int .i64 ut7)] [8] (by kernel_rfl) (fun n xs M => match xs with | [.int .i64 t8] => Inv n t8 M | _ => False) [((.exit 0), [], fun xs M => match xs with | [] => R0 M | _ => False), (.ret, [4], fun xs M => match xs with | [.int .i64 ot4] => R1 ot4 M | _ => False)] (fun n xs M h uu => by split at h <;> first | exact h.elim | exact (held_of (by kernel_rfl) (step n _ M h)).ok) (xs := [.int .i64 t8]) hT rfl h0 with ⟨_, _, h, g⟩ | ⟨_, _, h, g⟩
 · split at g <;> first | exact (.inl ⟨_, h, g⟩) | exact g.elim
 · split at g <;> first | exact (.inr ⟨_, _, h, g⟩) | exact g.elim

theorem w39 {M : Mem} {K : Value → Mem → Prop} (h : K (.slice (some (.mk (List.length M) 0 none)) 18 18)
 (M ++
 [AObj.cells
 [.string (ByteArray.mk #[100, 101, 102]), .string (ByteArray.mk #[102, 110]), .string (ByteArray.mk #[108, 101, 116]), .string (ByteArray.mk #[105, 102]),
 .string (ByteArray.mk #[97, 115, 115, 101, 114, 116]), .string (ByteArray.mk #[100, 105, 99, 116]), .string (ByteArray.mk #[99, 97, 108, 108]),
 .string (ByteArray.mk #[110, 111, 116]), .string (ByteArray.mk #[104, 97, 115]), .string (ByteArray.mk #[103, 101, 116]),
 .string (ByteArray.mk #[115, 101, 116]), .string (ByteArray.mk #[97, 110, 100]), .string (ByteArray.mk #[111, 114]), .string (ByteArray.mk #[105, 115]),
 .string (ByteArray.mk #[119, 104, 101, 114, 101]), .string (ByteArray.mk #[116, 114, 117, 101]), .string (ByteArray.mk #[102, 97, 108, 115, 101]),
 .string (ByteArray.mk #[110, 117, 108, 108])]
 1 Mode.live])) :
 Held (wpRet Try.prog 39 true [] [] M K) := held_of (by kernel_rfl) h
theorem w41 {p0 : ByteArray} {p1 : Option Addr} {p1n p1c : Nat} {M : Mem} {K : Value → Mem → Prop} (h : ∀ (t0 : List Value),
 TIn 18 [(0, .string p0), (1, .slice p1 p1n p1c), (5, .int .i64 (Int.ofNat 0))] t0 →
 (∃ (M1 : Mem), LpT Try.prog (Env.fn 41) [1, 0, 1, 0] t0 [] M false (.exit 0) [] M1 ∧ ∀ (w2 : Nat → Value), K (.bool false) M1) ∨
 ∃ (b3 : Bool), ∃ (M4 : Mem), LpT Try.prog (Env.fn 41) [1, 0, 1, 0] t0 [] M false .ret [(4, .bool b3)] M4 ∧ ∀ (w5 : Nat → Value), K (.bool b3) M4) :
 Held (wpRet Try.prog 41 true ann41 [.string p0, .slice p1 p1n p1c] M K) := held_of (by kernel_rfl) h
theorem loop41_0 {ut0 : ByteArray} {ut1 : Option Addr} {ut1n ut1c : Nat} {d : List ADef} {rc : Bool} (Inv : Nat → Int → Mem → Prop) (R0 : Mem → Prop) (R1 : Bool → Mem → Prop)
 (step : ∀ (n : Nat) (t5 : Int) (M : Mem), Inv n t5 M →
 cnd (!leF (Int.ofNat ut1n) t5)
 (∃ (n0 : Nat),
 ∃ (n1 : Nat),
 idxA Try.prog 53 (.slice ut1 ut1n ut1c) (.int .i64 t5) = some (.pointer (some (.mk n0 n1 none))) ∧
 ∃ (s2 : ByteArray), rdVar Try.prog M 9 n0 n1 = some (.string s2) ∧ cnd (eqS s2 ut0) (R1 true M) (∃ (n3 : Nat), n3 < n ∧ Inv n3 (wrapF .i64 (Int.add t5 (Int.ofNat 1))) M))
 (R0 M) )
 {n : Nat} {t5 : Int} {M : Mem} (h0 : Inv n t5 M) {t0 : List Value} (hT : TIn 18 [(0, .string ut0), (1, .slice ut1 ut1n ut1c), (5, .int .i64 t5)] t0) :
 (∃ (M' : Mem), LpT Try.prog (Env.fn 41) [1, 0, 1, 0] t0 d M rc (.exit 0) [] M' ∧ R0 M') ∨ (∃ (ot4 : Bool) (M' : Mem), LpT Try.prog (Env.fn 41) [1, 0, 1, 0] t0 d M rc .ret [(4, .bool ot4)] M' ∧ R1 ot4 M') := by
 rcases loopT (P := Try.prog) (E := (Env.fn 41)) (sym := true) (ann := ann41) (p := [1, 0, 1, 0]) (stepC (codeOf Try.prog 41 [1, 0, 1, 0]) 0) (by kernel_rfl) (by kernel_rfl) [(0, .string ut0), (1, .slice ut1 ut1n ut1c)] [5] (by kernel_rfl) (fun n xs M => match xs with | [.int .i64 t5] => Inv n t5 M | _ => False) [((.exit 0), [], fun xs M => match xs with | [] => R0 M | _ => False), (.ret, [4], fun xs M => match xs with | [.bool ot4] => R1 ot4 M | _ => False)] (fun n xs M h uu => by split at h <;> first | exact h.elim | exact (held_of (by kernel_rfl) (step n _ M h)).ok) (xs := [.int .i64 t5]) hT rfl h0 with ⟨_, _, h, g⟩ | ⟨_, _, h, g⟩
 · split at g <;> first | exact (.inl ⟨_, h, g⟩) | exact g.elim
 · split at g <;> first | exact (.inr ⟨_, _, h, g⟩) | exact g.elim

theorem w17 {p0 : ByteArray} {M : Mem} {K : Value → Mem → Prop} (h : ∃ (b0 : Bool),
 ∃ (M1 : Mem),
 Ret Try.prog 40 [.string p0]
 (M ++
 [AObj.cells
 [.string (ByteArray.mk #[100, 101, 102]), .string (ByteArray.mk #[102, 110]), .string (ByteArray.mk #[108, 101, 116]), .string (ByteArray.mk #[105, 102]),
 .string (ByteArray.mk #[97, 115, 115, 101, 114, 116]), .string (ByteArray.mk #[100, 105, 99, 116]), .string (ByteArray.mk #[99, 97, 108, 108]),
 .string (ByteArray.mk #[110, 111, 116]), .string (ByteArray.mk #[104, 97, 115]), .string (ByteArray.mk #[103, 101, 116]),
 .string (ByteArray.mk #[115, 101, 116]), .string (ByteArray.mk #[97, 110, 100]), .string (ByteArray.mk #[111, 114]), .string (ByteArray.mk #[105, 115]),
 .string (ByteArray.mk #[119, 104, 101, 114, 101]), .string (ByteArray.mk #[116, 114, 117, 101]), .string (ByteArray.mk #[102, 97, 108, 115, 101]),
 .string (ByteArray.mk #[110, 117, 108, 108])]
 1 Mode.live])
 (.bool b0) M1 ∧
 cnd b0
 (∃ (i2 : Int),
 indexA Try.prog 9 (.string p0) (.int .i64 (wrapF .i64 (Int.sub (Int.ofNat (ByteArray.size p0)) (Int.ofNat 1)))) = some (.int .u8 i2) ∧
 cnd (!eqF i2 (Int.ofNat 63))
 (∃ (b3 : Bool), ∃ (M4 : Mem), Ret Try.prog 41 [.string p0, .slice (some (.mk (List.length M) 0 none)) 18 18] M1 (.bool b3) M4 ∧ K (.bool !b3) M4)
 (K (.bool false) M1))
 (K (.bool false) M1)) :
 Held (wpRet Try.prog 17 true [] [.string p0] M K) := held_of (by kernel_rfl) h
theorem w40 {p0 : ByteArray} {M : Mem} {K : Value → Mem → Prop} (h : cnd (!eqS p0 (ByteArray.mk #[]))
 (∃ (i0 : Int),
 ∃ (M1 : Mem), Ret Try.prog 72 [.string p0, .int .i64 (Int.ofNat 0)] M (.int .i64 i0) M1 ∧ K (.bool (eqF i0 (Int.ofNat (ByteArray.size p0)))) M1)
 (K (.bool false) M)) :
 Held (wpRet Try.prog 40 true [] [.string p0] M K) := held_of (by kernel_rfl) h
theorem w72 {p0 : ByteArray} {p1 : Int} {M : Mem} {K : Value → Mem → Prop} (h : cnd (leF (Int.ofNat (ByteArray.size p0)) p1) (K (.int .i64 (Int.ofNat 0)) M)
 (∃ (i0 : Int),
 indexA Try.prog 9 (.string p0) (.int .i64 p1) = some (.int .u8 i0) ∧
 ∃ (b1 : Bool),
 ∃ (M2 : Mem),
 Ret Try.prog 94 [.int .u8 i0] M (.bool b1) M2 ∧
 cnd (!b1) (K (.int .i64 (Int.ofNat 0)) M2)
 (∀ (t3 : List Value),
 TIn 58 [(0, .string p0), (1, .int .i64 p1), (5, .int .i64 (wrapF .i64 (Int.add p1 (Int.ofNat 1))))] t3 →
 ∃ (i4 : Int),
 ∃ (M5 : Mem),
 LpT Try.prog (Env.fn 72) [1, 1, 1, 0, 0] t3 [] M2 false (.exit 0) [(5, .int .i64 i4)] M5 ∧
 ∀ (w6 : Nat → Value),
 cnd (!leF (Int.ofNat (ByteArray.size p0)) i4)
 (∃ (i7 : Int),
 indexA Try.prog 9 (.string p0) (.int .i64 i4) = some (.int .u8 i7) ∧
 cnd (eqF i7 (Int.ofNat 63)) (K (.int .i64 (wrapF .i64 (Int.sub (wrapF .i64 (Int.add i4 (Int.ofNat 1))) p1))) M5)
 (K (.int .i64 (wrapF .i64 (Int.sub i4 p1))) M5))
 (K (.int .i64 (wrapF .i64 (Int.sub i4 p1))) M5)))) :
 Held (wpRet Try.prog 72 true ann72 [.string p0, .int .i64 p1] M K) := held_of (by kernel_rfl) h
theorem loop72_0 {ut0 : ByteArray} {ut1 : Int} {d : List ADef} {rc : Bool} (Inv : Nat → Int → Mem → Prop) (R0 : Int → Mem → Prop)
 (step : ∀ (n : Nat) (t5 : Int) (M : Mem), Inv n t5 M →
 cnd (!leF (Int.ofNat (ByteArray.size ut0)) t5)
 (∃ (i0 : Int),
 indexA Try.prog 9 (.string ut0) (.int .i64 t5) = some (.int .u8 i0) ∧
 ∃ (b1 : Bool),
 ∃ (M2 : Mem),
 Ret Try.prog 94 [.int .u8 i0] M (.bool b1) M2 ∧
 cnd b1 (∃ (n3 : Nat), n3 < n ∧ Inv n3 (wrapF .i64 (Int.add t5 (Int.ofNat 1))) M2)
 (∃ (i4 : Int),
 indexA Try.prog 9 (.string ut0) (.int .i64 t5) = some (.int .u8 i4) ∧
 ∃ (b5 : Bool),
 ∃ (M6 : Mem),
 Ret Try.prog 95 [.int .u8 i4] M2 (.bool b5) M6 ∧
 cnd b5 (∃ (n7 : Nat), n7 < n ∧ Inv n7 (wrapF .i64 (Int.add t5 (Int.ofNat 1))) M6)
 (∃ (i8 : Int),
 indexA Try.prog 9 (.string ut0) (.int .i64 t5) = some (.int .u8 i8) ∧
 cnd (eqF i8 (Int.ofNat 95)) (∃ (n9 : Nat), n9 < n ∧ Inv n9 (wrapF .i64 (Int.add t5 (Int.ofNat 1))) M6) (R0 t5 M6))))
 (R0 t5 M) )
 {n : Nat} {t5 : Int} {M : Mem} (h0 : Inv n t5 M) {t0 : List Value} (hT : TIn 58 [(0, .string ut0), (1, .int .i64 ut1), (5, .int .i64 t5)] t0) :
 (∃ (ot5 : Int) (M' : Mem), LpT Try.prog (Env.fn 72) [1, 1, 1, 0, 0] t0 d M rc (.exit 0) [(5, .int .i64 ot5)] M' ∧ R0 ot5 M') := by
 rcases loopT (P := Try.prog) (E := (Env.fn 72)) (sym := true) (ann := ann72) (p := [1, 1, 1, 0, 0]) (stepC (codeOf Try.prog 72 [1, 1, 1, 0, 0]) 0) (by kernel_rfl) (by kernel_rfl) [(0, .string ut0), (1, .int .i64 ut1)] [5] (by kernel_rfl) (fun n xs M => match xs with | [.int .i64 t5] => Inv n t5 M | _ => False) [((.exit 0), [5], fun xs M => match xs with | [.int .i64 ot5] => R0 ot5 M | _ => False)] (fun n xs M h uu => by split at h <;> first | exact h.elim | exact (held_of (by kernel_rfl) (step n _ M h)).ok) (xs := [.int .i64 t5]) hT rfl h0 with ⟨_, _, h, g⟩
 · split at g <;> first | exact ⟨_, _, h, g⟩ | exact g.elim

theorem w92 {p0 : ByteArray} {p1 : Int} {M : Mem} {K : Value → Mem → Prop} (h : cnd (!leF (Int.ofNat (ByteArray.size p0)) p1)
 (∃ (i0 : Int),
 indexA Try.prog 9 (.string p0) (.int .i64 p1) = some (.int .u8 i0) ∧
 cnd (eqF i0 (Int.ofNat 45))
 (∀ (t1 : List Value),
 TIn 39
 [(0, .string p0), (1, .int .i64 p1), (6, .int .i64 (wrapF .i64 (Int.add p1 (Int.ofNat 1)))),
 (5, .int .i64 (wrapF .i64 (Int.add p1 (Int.ofNat 1))))]
 t1 →
 ∃ (i2 : Int),
 ∃ (M3 : Mem),
 LpT Try.prog (Env.fn 92) [1, 1, 1, 1, 0, 0] t1 [] M false (.exit 0) [(5, .int .i64 i2)] M3 ∧
 ∀ (w4 : Nat → Value),
 cnd (eqF i2 (wrapF .i64 (Int.add p1 (Int.ofNat 1)))) (K (.int .i64 (Int.ofNat 0)) M3)
 (K (.int .i64 (wrapF .i64 (Int.sub i2 p1))) M3))
 (∀ (t5 : List Value),
 TIn 39 [(0, .string p0), (1, .int .i64 p1), (6, .int .i64 p1), (5, .int .i64 p1)] t5 →
 ∃ (i6 : Int),
 ∃ (M7 : Mem),
 LpT Try.prog (Env.fn 92) [1, 1, 1, 1, 0, 0] t5 [] M false (.exit 0) [(5, .int .i64 i6)] M7 ∧
 ∀ (w8 : Nat → Value), cnd (eqF i6 p1) (K (.int .i64 (Int.ofNat 0)) M7) (K (.int .i64 (wrapF .i64 (Int.sub i6 p1))) M7)))
 (∀ (t9 : List Value),
 TIn 39 [(0, .string p0), (1, .int .i64 p1), (6, .int .i64 p1), (5, .int .i64 p1)] t9 →
 ∃ (i10 : Int),
 ∃ (M11 : Mem),
 LpT Try.prog (Env.fn 92) [1, 1, 1, 1, 0, 0] t9 [] M false (.exit 0) [(5, .int .i64 i10)] M11 ∧
 ∀ (w12 : Nat → Value), cnd (eqF i10 p1) (K (.int .i64 (Int.ofNat 0)) M11) (K (.int .i64 (wrapF .i64 (Int.sub i10 p1))) M11))) :
 Held (wpRet Try.prog 92 true ann92 [.string p0, .int .i64 p1] M K) := held_of (by kernel_rfl) h
theorem loop92_0 {ut0 : ByteArray} {ut1 ut6 : Int} {d : List ADef} {rc : Bool} (Inv : Nat → Int → Mem → Prop) (R0 : Int → Mem → Prop)
 (step : ∀ (n : Nat) (t5 : Int) (M : Mem), Inv n t5 M →
 cnd (!leF (Int.ofNat (ByteArray.size ut0)) t5)
 (∃ (i0 : Int),
 indexA Try.prog 9 (.string ut0) (.int .i64 t5) = some (.int .u8 i0) ∧
 ∃ (b1 : Bool),
 ∃ (M2 : Mem), Ret Try.prog 95 [.int .u8 i0] M (.bool b1) M2 ∧ cnd b1 (∃ (n3 : Nat), n3 < n ∧ Inv n3 (wrapF .i64 (Int.add t5 (Int.ofNat 1))) M2) (R0 t5 M2))
 (R0 t5 M) )
 {n : Nat} {t5 : Int} {M : Mem} (h0 : Inv n t5 M) {t0 : List Value} (hT : TIn 39 [(0, .string ut0), (1, .int .i64 ut1), (6, .int .i64 ut6), (5, .int .i64 t5)] t0) :
 (∃ (ot5 : Int) (M' : Mem), LpT Try.prog (Env.fn 92) [1, 1, 1, 1, 0, 0] t0 d M rc (.exit 0) [(5, .int .i64 ot5)] M' ∧ R0 ot5 M') := by
 rcases loopT (P := Try.prog) (E := (Env.fn 92)) (sym := true) (ann := ann92) (p := [1, 1, 1, 1, 0, 0]) (stepC (codeOf Try.prog 92 [1, 1, 1, 1, 0, 0]) 0) (by kernel_rfl) (by kernel_rfl) [(0, .string ut0), (1, .int .i64 ut1), (6, .int .i64 ut6)] [5] (by kernel_rfl) (fun n xs M => match xs with | [.int .i64 t5] => Inv n t5 M | _ => False) [((.exit 0), [5], fun xs M => match xs with | [.int .i64 ot5] => R0 ot5 M | _ => False)] (fun n xs M h uu => by split at h <;> first | exact h.elim | exact (held_of (by kernel_rfl) (step n _ M h)).ok) (xs := [.int .i64 t5]) hT rfl h0 with ⟨_, _, h, g⟩
 · split at g <;> first | exact ⟨_, _, h, g⟩ | exact g.elim

theorem w67 {p0 : ByteArray} {M : Mem} {K : Value → Mem → Prop} (h : cnd (eqS p0 (ByteArray.mk #[])) (K (.bool false) M)
 (∃ (i0 : Int),
 ∃ (M1 : Mem),
 Ret Try.prog 92 [.string p0, .int .i64 (Int.ofNat 0)] M (.int .i64 i0) M1 ∧
 cnd (!eqF i0 (Int.ofNat (ByteArray.size p0))) (K (.bool false) M1)
 (∃ (i2 : Int),
 indexA Try.prog 9 (.string p0) (.int .i64 (Int.ofNat 0)) = some (.int .u8 i2) ∧
 cnd (eqF i2 (Int.ofNat 45))
 (∃ (i3 : Int), indexA Try.prog 9 (.string p0) (.int .i64 (Int.ofNat 1)) = some (.int .u8 i3) ∧ K (.bool !eqF i3 (Int.ofNat 48)) M1)
 (cnd (eqS p0 (ByteArray.mk #[48])) (K (.bool true) M1)
 (∃ (i4 : Int), indexA Try.prog 9 (.string p0) (.int .i64 (Int.ofNat 0)) = some (.int .u8 i4) ∧ K (.bool !eqF i4 (Int.ofNat 48)) M1))))) :
 Held (wpRet Try.prog 67 true [] [.string p0] M K) := held_of (by kernel_rfl) h
theorem w94 {p0 : Int} {M : Mem} {K : Value → Mem → Prop} (h : cnd (leF (Int.ofNat 97) p0) (cnd (leF p0 (Int.ofNat 122)) (K (.bool true) M) (cnd (leF (Int.ofNat 65) p0) (K (.bool (leF p0 (Int.ofNat 90))) M) (K (.bool false) M)))
 (cnd (leF (Int.ofNat 65) p0) (K (.bool (leF p0 (Int.ofNat 90))) M) (K (.bool false) M))) :
 Held (wpRet Try.prog 94 true [] [.int .u8 p0] M K) := held_of (by kernel_rfl) h
theorem w95 {p0 : Int} {M : Mem} {K : Value → Mem → Prop} (h : cnd (leF (Int.ofNat 48) p0) (K (.bool (leF p0 (Int.ofNat 57))) M) (K (.bool false) M)) :
 Held (wpRet Try.prog 95 true [] [.int .u8 p0] M K) := held_of (by kernel_rfl) h

end Go.Proofs.YtabkcbaknjenmaaAM

/-
  THE NODE LAWS: what is to be shown for functions, printed by a program: names of kinds, kids
-/
set_option linter.unusedVariables false
namespace Go.Proofs.YtabkcbaknjenmaaAM
open Go Go.Proofs
set_option maxRecDepth 100000
set_option maxHeartbeats 4000000
def ann65 : Ann := [([1, 1, 0, 1, 0], [0, 1, 5, 6], [(some 0, [(5, some 22)])])]
def ann85 : Ann := [([1, 1, 1, 1, 1, 1, 0, 0], [7, 8], [(some 0, [])])]
theorem w64 {p0 : Option Addr} {p0n p0c : Nat} {M : Mem} {K : Value → Mem → Prop} (h : K (.func (Fn.func 90) (Array.mk []) (Array.mk [.pointer (some (.mk (List.length M) 0 none))])) (M ++ [AObj.cells [.slice p0 p0n p0c] 1 Mode.live])) :
 Held (wpRet Try.prog 64 true [] [.slice p0 p0n p0c] M K) := held_of (by kernel_rfl) h
theorem w90 {p0 : ByteArray} {c0 : Nat} {M : Mem} {K : Value → Mem → Prop} (h : ∃ (a0 : Option Addr),
 ∃ (n1 : Nat),
 ∃ (n2 : Nat),
 rdVar Try.prog M 53 c0 0 = some (.slice a0 n1 n2) ∧
 ∃ (b3 : Bool), ∃ (M4 : Mem), Ret Try.prog 38 [.slice a0 n1 n2, .string p0] M (.bool b3) M4 ∧ K (.bool b3) M4) :
 Held (wpRet Try.prog 90 true [] [.string p0, .pointer (some (.mk c0 0 none))] M K) := held_of (by kernel_rfl) h
theorem w59 {p0 : Option Addr} {p0n p0c : Nat} {M : Mem} {K : Value → Mem → Prop} (h : K (.func (Fn.func 88) (Array.mk []) (Array.mk [.pointer (some (.mk (List.length M) 0 none))])) (M ++ [AObj.cells [.slice p0 p0n p0c] 1 Mode.live])) :
 Held (wpRet Try.prog 59 true [] [.slice p0 p0n p0c] M K) := held_of (by kernel_rfl) h
theorem w88 {p00 : Int} {p01 p02 : ByteArray} {p03 : Option Addr} {p03n p03c : Nat} {p04 : Int} {c0 : Nat} {M : Mem} {K : Value → Mem → Prop} (h : ∃ (a0 : Option Addr),
 ∃ (n1 : Nat),
 ∃ (n2 : Nat),
 rdVar Try.prog (M ++ [AObj.cells [.int .i64 p00, .string p01, .string p02, .slice p03 p03n p03c, .int .i64 p04] 5 Mode.live]) 22 c0 0 =
 some (Value.slice a0 n1 n2) ∧
 ∃ (a3 : Option Addr),
 ∃ (n4 : Nat),
 ∃ (n5 : Nat),
 rdVar Try.prog (M ++ [AObj.cells [.int .i64 p00, .string p01, .string p02, .slice p03 p03n p03c, .int .i64 p04] 5 Mode.live]) 22 c0 0 =
 some (Value.slice a3 n4 n5) ∧
 ∃ (a6 : Option Addr),
 ∃ (n7 : Nat),
 ∃ (n8 : Nat),
 rdVar Try.prog (M ++ [AObj.cells [.int .i64 p00, .string p01, .string p02, .slice p03 p03n p03c, .int .i64 p04] 5 Mode.live]) 22
 (List.length M) 3 =
 some (Value.slice a6 n7 n8) ∧
 True ∧
 K (.tuple (Array.mk [.slice a0 n1 n2, .bool (eqF (Int.ofNat n4) (Int.ofNat n7))]))
 (M ++ [AObj.cells [.int .i64 p00, .string p01, .string p02, .slice p03 p03n p03c, .int .i64 p04] 5 Mode.live])) :
 Held (wpRet Try.prog 88 true []
 [.agg (Array.mk [.int .i64 p00, .string p01, .string p02, .slice p03 p03n p03c, .int .i64 p04]), .pointer (some (.mk c0 0 none))] M K) := held_of (by kernel_rfl) h
theorem w57 {p0 p1 p2 : Int} {M : Mem} {K : Value → Mem → Prop} (h : K
 (.func (Fn.func 84) (Array.mk [])
 (Array.mk
 [.pointer (some (.mk (List.length M) 0 none)), .pointer (some (.mk (List.length (M ++ [AObj.cells [.int .i64 p0] 1 Mode.live])) 0 none)),
 .pointer (some (.mk (List.length (M ++ [AObj.cells [.int .i64 p0] 1 Mode.live] ++ [AObj.cells [.int .i64 p1] 1 Mode.live])) 0 none))]))
 (M ++ [AObj.cells [.int .i64 p0] 1 Mode.live] ++ [AObj.cells [.int .i64 p1] 1 Mode.live] ++ [AObj.cells [.int .i64 p2] 1 Mode.live])) :
 Held (wpRet Try.prog 57 true [] [.int .i64 p0, .int .i64 p1, .int .i64 p2] M K) := held_of (by kernel_rfl) h
theorem w84 {p00 : Int} {p01 p02 : ByteArray} {p03 : Option Addr} {p03n p03c : Nat} {p04 : Int} {c0 c1 c2 : Nat} {M : Mem} {K : Value → Mem → Prop} (h : ∃ (a0 : Option Addr),
 ∃ (n1 : Nat),
 ∃ (n2 : Nat),
 rdVar Try.prog (M ++ [AObj.cells [.int .i64 p00, .string p01, .string p02, .slice p03 p03n p03c, .int .i64 p04] 5 Mode.live]) 22 (List.length M)
 3 =
 some (Value.slice a0 n1 n2) ∧
 ∃ (i3 : Int),
 rdVar Try.prog (M ++ [AObj.cells [.int .i64 p00, .string p01, .string p02, .slice p03 p03n p03c, .int .i64 p04] 5 Mode.live]) 3 c0 0 =
 some (Value.int .i64 i3) ∧
 ∃ (a4 : Option Addr),
 ∃ (n5 : Nat),
 ∃ (n6 : Nat),
 ∃ (M7 : Mem),
 Ret Try.prog 85
 [.slice
 (some
 (.mk
 (List.length
 (M ++ [AObj.cells [.int .i64 p00, .string p01, .string p02, .slice p03 p03n p03c, .int .i64 p04] 5 Mode.live]))
 0 none))
 1 1,
 .int .i64 (Int.ofNat n1)]
 (M ++ [AObj.cells [.int .i64 p00, .string p01, .string p02, .slice p03 p03n p03c, .int .i64 p04] 5 Mode.live] ++
 [AObj.cells [.int .i64 i3] 1 Mode.live])
 (.slice a4 n5 n6) M7 ∧
 ∃ (i8 : Int),
 rdVar Try.prog M7 3 c1 0 = some (.int .i64 i8) ∧
 cnd (leF i8 (Int.ofNat n1))
 (∃ (i9 : Int),
 rdVar Try.prog M7 3 c2 0 = some (.int .i64 i9) ∧
 (((c1 <
 List.length
 (M ++
 [AObj.cells [.int .i64 p00, .string p01, .string p02, .slice p03 p03n p03c, .int .i64 p04] 5
 Mode.live] ++
 [AObj.cells [.int .i64 i3] 1 Mode.live]) →
 M7[c1]? =
 (M ++
 [AObj.cells [.int .i64 p00, .string p01, .string p02, .slice p03 p03n p03c, .int .i64 p04] 5
 Mode.live] ++
 [AObj.cells [.int .i64 i3] 1 Mode.live])[c1]?) ∧
 True) ∧
 True) ∧
 K (.tuple (Array.mk [.slice a4 n5 n6, .bool (leF (Int.ofNat n1) i9)])) M7)
 ((((c1 <
 List.length
 (M ++
 [AObj.cells [.int .i64 p00, .string p01, .string p02, .slice p03 p03n p03c, .int .i64 p04] 5 Mode.live] ++
 [AObj.cells [.int .i64 i3] 1 Mode.live]) →
 M7[c1]? =
 (M ++ [AObj.cells [.int .i64 p00, .string p01, .string p02, .slice p03 p03n p03c, .int .i64 p04] 5 Mode.live] ++
 [AObj.cells [.int .i64 i3] 1 Mode.live])[c1]?) ∧
 True) ∧
 True) ∧
 K (.tuple (Array.mk [.slice a4 n5 n6, .bool false])) M7)) :
 Held (wpRet Try.prog 84 true []
 [.agg (Array.mk [.int .i64 p00, .string p01, .string p02, .slice p03 p03n p03c, .int .i64 p04]), .pointer (some (.mk c0 0 none)),
 .pointer (some (.mk c1 0 none)), .pointer (some (.mk c2 0 none))]
 M K) := held_of (by kernel_rfl) h
theorem w61 {p00 : Int} {p01 p02 : ByteArray} {p03 : Option Addr} {p03n p03c : Nat} {p04 : Int} {M : Mem} {K : Value → Mem → Prop} (h : (∃ (x0 : FuncId),
 ∃ (t1 : List Value),
 ∃ (M2 : Mem),
 Ret Try.prog 57 [.int .i64 (Int.ofNat 0), .int .i64 (Int.ofNat 0), .int .i64 (Int.ofNat 128)]
 (M ++ [AObj.cells [.int .i64 p00, .string p01, .string p02, .slice p03 p03n p03c, .int .i64 p04] 5 Mode.live])
 (.func (Fn.func x0) (Array.mk []) (Array.mk t1)) M2 ∧
 ∃ (i3 : Int),
 ∃ (s4 : ByteArray),
 ∃ (s5 : ByteArray),
 ∃ (a6 : Option Addr),
 ∃ (n7 : Nat),
 ∃ (n8 : Nat),
 ∃ (i9 : Int),
 rdVar Try.prog M2 24 (List.length M) 0 =
 some (Value.agg (Array.mk [.int .i64 i3, .string s4, .string s5, .slice a6 n7 n8, .int .i64 i9])) ∧
 cnd (walksIn Try.prog x0)
 (∃ (a10 : Option Addr),
 ∃ (n11 : Nat),
 ∃ (n12 : Nat),
 ∃ (b13 : Bool),
 ∃ (M14 : Mem),
 Ret Try.prog x0
 (.agg (Array.mk [.int .i64 i3, .string s4, .string s5, .slice a6 n7 n8, .int .i64 i9]) :: t1) M2
 (.tuple (Array.mk [.slice a10 n11 n12, .bool b13])) M14 ∧
 (((List.length M <
 List.length
 (M ++
 [AObj.cells [.int .i64 p00, .string p01, .string p02, .slice p03 p03n p03c, .int .i64 p04] 5
 Mode.live]) →
 M2[List.length M]? =
 (M ++
 [AObj.cells [.int .i64 p00, .string p01, .string p02, .slice p03 p03n p03c, .int .i64 p04] 5
 Mode.live])[List.length M]?) ∧
 True) ∧
 True) ∧
 cnd b13
 (∃ (i19 : Int),
 binA Try.prog BinOp.rem 3 (Operand.tmp 16) (Operand.const (.int .i64 (Int.ofNat 2))) (.int .i64 (Int.ofNat n11))
 (.int .i64 (Int.ofNat 2)) =
 some (Value.int .i64 i19) ∧
 K (.tuple (Array.mk [.slice a10 n11 n12, .bool (eqF i19 (Int.ofNat 0))])) M14)
 (K (.tuple (Array.mk [.slice a10 n11 n12, .bool false])) M14))
 False) ∨
 ∃ (M20 : Mem),
 Ret Try.prog 57 [.int .i64 (Int.ofNat 0), .int .i64 (Int.ofNat 0), .int .i64 (Int.ofNat 128)]
 (M ++ [AObj.cells [.int .i64 p00, .string p01, .string p02, .slice p03 p03n p03c, .int .i64 p04] 5 Mode.live]) .nilFunc M20 ∧
 ∃ (i21 : Int),
 ∃ (s22 : ByteArray),
 ∃ (s23 : ByteArray),
 ∃ (a24 : Option Addr),
 ∃ (n25 : Nat),
 ∃ (n26 : Nat),
 ∃ (i27 : Int),
 rdVar Try.prog M20 24 (List.length M) 0 =
 some (Value.agg (Array.mk [.int .i64 i21, .string s22, .string s23, .slice a24 n25 n26, .int .i64 i27])) ∧
 False) :
 Held (wpRet Try.prog 61 true [] [.agg (Array.mk [.int .i64 p00, .string p01, .string p02, .slice p03 p03n p03c, .int .i64 p04])] M K) := held_of (by kernel_rfl) h
theorem w63 {p00 : Int} {p01 p02 : ByteArray} {p03 : Option Addr} {p03n p03c : Nat} {p04 : Int} {M : Mem} {K : Value → Mem → Prop} (h : ∃ (s0 : ByteArray),
 rdVar Try.prog (M ++ [AObj.cells [.int .i64 p00, .string p01, .string p02, .slice p03 p03n p03c, .int .i64 p04] 5 Mode.live]) 9 (List.length M) 1 =
 some (Value.string s0) ∧
 cnd (eqS s0 (ByteArray.mk #[115, 101, 116]))
 ((∃ (x1 : FuncId),
 ∃ (t2 : List Value),
 ∃ (M3 : Mem),
 Ret Try.prog 57 [.int .i64 (Int.ofNat 0), .int .i64 (Int.ofNat 3), .int .i64 (Int.ofNat 3)]
 (M ++ [AObj.cells [.int .i64 p00, .string p01, .string p02, .slice p03 p03n p03c, .int .i64 p04] 5 Mode.live])
 (.func (Fn.func x1) (Array.mk []) (Array.mk t2)) M3 ∧
 ∃ (i4 : Int),
 ∃ (s5 : ByteArray),
 ∃ (s6 : ByteArray),
 ∃ (a7 : Option Addr),
 ∃ (n8 : Nat),
 ∃ (n9 : Nat),
 ∃ (i10 : Int),
 rdVar Try.prog M3 24 (List.length M) 0 =
 some (Value.agg (Array.mk [.int .i64 i4, .string s5, .string s6, .slice a7 n8 n9, .int .i64 i10])) ∧
 cnd (walksIn Try.prog x1)
 (∃ (a11 : Option Addr),
 ∃ (n12 : Nat),
 ∃ (n13 : Nat),
 ∃ (b14 : Bool),
 ∃ (M15 : Mem),
 Ret Try.prog x1
 (.agg (Array.mk [.int .i64 i4, .string s5, .string s6, .slice a7 n8 n9, .int .i64 i10]) :: t2) M3
 (.tuple (Array.mk [.slice a11 n12 n13, .bool b14])) M15 ∧
 (((List.length M <
 List.length
 (M ++
 [AObj.cells [.int .i64 p00, .string p01, .string p02, .slice p03 p03n p03c, .int .i64 p04]
 5 Mode.live]) →
 M3[List.length M]? =
 (M ++
 [AObj.cells [.int .i64 p00, .string p01, .string p02, .slice p03 p03n p03c, .int .i64 p04]
 5 Mode.live])[List.length M]?) ∧
 True) ∧
 True) ∧
 K (.tuple (Array.mk [.slice a11 n12 n13, .bool b14])) M15)
 False) ∨
 ∃ (M20 : Mem),
 Ret Try.prog 57 [.int .i64 (Int.ofNat 0), .int .i64 (Int.ofNat 3), .int .i64 (Int.ofNat 3)]
 (M ++ [AObj.cells [.int .i64 p00, .string p01, .string p02, .slice p03 p03n p03c, .int .i64 p04] 5 Mode.live]) .nilFunc M20 ∧
 ∃ (i21 : Int),
 ∃ (s22 : ByteArray),
 ∃ (s23 : ByteArray),
 ∃ (a24 : Option Addr),
 ∃ (n25 : Nat),
 ∃ (n26 : Nat),
 ∃ (i27 : Int),
 rdVar Try.prog M20 24 (List.length M) 0 =
 some (Value.agg (Array.mk [.int .i64 i21, .string s22, .string s23, .slice a24 n25 n26, .int .i64 i27])) ∧
 False)
 (∃ (s28 : ByteArray),
 rdVar Try.prog (M ++ [AObj.cells [.int .i64 p00, .string p01, .string p02, .slice p03 p03n p03c, .int .i64 p04] 5 Mode.live]) 9 (List.length M)
 1 =
 some (Value.string s28) ∧
 cnd (eqS s28 (ByteArray.mk #[110, 111, 116]))
 ((∃ (x29 : FuncId),
 ∃ (t30 : List Value),
 ∃ (M31 : Mem),
 Ret Try.prog 57 [.int .i64 (Int.ofNat 0), .int .i64 (Int.ofNat 1), .int .i64 (Int.ofNat 1)]
 (M ++ [AObj.cells [.int .i64 p00, .string p01, .string p02, .slice p03 p03n p03c, .int .i64 p04] 5 Mode.live])
 (.func (Fn.func x29) (Array.mk []) (Array.mk t30)) M31 ∧
 ∃ (i32 : Int),
 ∃ (s33 : ByteArray),
 ∃ (s34 : ByteArray),
 ∃ (a35 : Option Addr),
 ∃ (n36 : Nat),
 ∃ (n37 : Nat),
 ∃ (i38 : Int),
 rdVar Try.prog M31 24 (List.length M) 0 =
 some (Value.agg (Array.mk [.int .i64 i32, .string s33, .string s34, .slice a35 n36 n37, .int .i64 i38])) ∧
 cnd (walksIn Try.prog x29)
 (∃ (a39 : Option Addr),
 ∃ (n40 : Nat),
 ∃ (n41 : Nat),
 ∃ (b42 : Bool),
 ∃ (M43 : Mem),
 Ret Try.prog x29
 (.agg
 (Array.mk [.int .i64 i32, .string s33, .string s34, .slice a35 n36 n37, .int .i64 i38]) ::
 t30)
 M31 (.tuple (Array.mk [.slice a39 n40 n41, .bool b42])) M43 ∧
 (((List.length M <
 List.length
 (M ++
 [AObj.cells
 [.int .i64 p00, .string p01, .string p02, .slice p03 p03n p03c, .int .i64 p04] 5
 Mode.live]) →
 M31[List.length M]? =
 (M ++
 [AObj.cells
 [.int .i64 p00, .string p01, .string p02, .slice p03 p03n p03c, .int .i64 p04] 5
 Mode.live])[List.length M]?) ∧
 True) ∧
 True) ∧
 K (.tuple (Array.mk [.slice a39 n40 n41, .bool b42])) M43)
 False) ∨
 ∃ (M48 : Mem),
 Ret Try.prog 57 [.int .i64 (Int.ofNat 0), .int .i64 (Int.ofNat 1), .int .i64 (Int.ofNat 1)]
 (M ++ [AObj.cells [.int .i64 p00, .string p01, .string p02, .slice p03 p03n p03c, .int .i64 p04] 5 Mode.live]) .nilFunc M48 ∧
 ∃ (i49 : Int),
 ∃ (s50 : ByteArray),
 ∃ (s51 : ByteArray),
 ∃ (a52 : Option Addr),
 ∃ (n53 : Nat),
 ∃ (n54 : Nat),
 ∃ (i55 : Int),
 rdVar Try.prog M48 24 (List.length M) 0 =
 some (Value.agg (Array.mk [.int .i64 i49, .string s50, .string s51, .slice a52 n53 n54, .int .i64 i55])) ∧
 False)
 (∃ (s56 : ByteArray),
 rdVar Try.prog (M ++ [AObj.cells [.int .i64 p00, .string p01, .string p02, .slice p03 p03n p03c, .int .i64 p04] 5 Mode.live]) 9
 (List.length M) 1 =
 some (Value.string s56) ∧
 ∃ (b57 : Bool),
 ∃ (M58 : Mem),
 Ret Try.prog 89 [.string s56]
 (M ++ [AObj.cells [.int .i64 p00, .string p01, .string p02, .slice p03 p03n p03c, .int .i64 p04] 5 Mode.live]) (.bool b57)
 M58 ∧
 cnd b57
 ((∃ (x59 : FuncId),
 ∃ (t60 : List Value),
 ∃ (M61 : Mem),
 Ret Try.prog 57 [.int .i64 (Int.ofNat 0), .int .i64 (Int.ofNat 1), .int .i64 (Int.ofNat 1)] M58
 (.func (Fn.func x59) (Array.mk []) (Array.mk t60)) M61 ∧
 ∃ (i62 : Int),
 ∃ (s63 : ByteArray),
 ∃ (s64 : ByteArray),
 ∃ (a65 : Option Addr),
 ∃ (n66 : Nat),
 ∃ (n67 : Nat),
 ∃ (i68 : Int),
 rdVar Try.prog M61 24 (List.length M) 0 =
 some
 (.agg
 (Array.mk [.int .i64 i62, .string s63, .string s64, .slice a65 n66 n67, .int .i64 i68])) ∧
 cnd (walksIn Try.prog x59)
 (∃ (a69 : Option Addr),
 ∃ (n70 : Nat),
 ∃ (n71 : Nat),
 ∃ (b72 : Bool),
 ∃ (M73 : Mem),
 Ret Try.prog x59
 (.agg
 (Array.mk
 [.int .i64 i62, .string s63, .string s64, .slice a65 n66 n67,
 .int .i64 i68]) ::
 t60)
 M61 (.tuple (Array.mk [.slice a69 n70 n71, .bool b72])) M73 ∧
 (((List.length M < List.length M58 → M61[List.length M]? = M58[List.length M]?) ∧ True) ∧ True) ∧
 K (.tuple (Array.mk [.slice a69 n70 n71, .bool b72])) M73)
 False) ∨
 ∃ (M78 : Mem),
 Ret Try.prog 57 [.int .i64 (Int.ofNat 0), .int .i64 (Int.ofNat 1), .int .i64 (Int.ofNat 1)] M58 .nilFunc M78 ∧
 ∃ (i79 : Int),
 ∃ (s80 : ByteArray),
 ∃ (s81 : ByteArray),
 ∃ (a82 : Option Addr),
 ∃ (n83 : Nat),
 ∃ (n84 : Nat),
 ∃ (i85 : Int),
 rdVar Try.prog M78 24 (List.length M) 0 =
 some
 (.agg (Array.mk [.int .i64 i79, .string s80, .string s81, .slice a82 n83 n84, .int .i64 i85])) ∧
 False)
 ((∃ (x86 : FuncId),
 ∃ (t87 : List Value),
 ∃ (M88 : Mem),
 Ret Try.prog 57 [.int .i64 (Int.ofNat 0), .int .i64 (Int.ofNat 2), .int .i64 (Int.ofNat 2)] M58
 (.func (Fn.func x86) (Array.mk []) (Array.mk t87)) M88 ∧
 ∃ (i89 : Int),
 ∃ (s90 : ByteArray),
 ∃ (s91 : ByteArray),
 ∃ (a92 : Option Addr),
 ∃ (n93 : Nat),
 ∃ (n94 : Nat),
 ∃ (i95 : Int),
 rdVar Try.prog M88 24 (List.length M) 0 =
 some
 (.agg
 (Array.mk [.int .i64 i89, .string s90, .string s91, .slice a92 n93 n94, .int .i64 i95])) ∧
 cnd (walksIn Try.prog x86)
 (∃ (a96 : Option Addr),
 ∃ (n97 : Nat),
 ∃ (n98 : Nat),
 ∃ (b99 : Bool),
 ∃ (M100 : Mem),
 Ret Try.prog x86
 (.agg
 (Array.mk
 [.int .i64 i89, .string s90, .string s91, .slice a92 n93 n94,
 .int .i64 i95]) ::
 t87)
 M88 (.tuple (Array.mk [.slice a96 n97 n98, .bool b99])) M100 ∧
 (((List.length M < List.length M58 → M88[List.length M]? = M58[List.length M]?) ∧ True) ∧ True) ∧
 K (.tuple (Array.mk [.slice a96 n97 n98, .bool b99])) M100)
 False) ∨
 ∃ (M105 : Mem),
 Ret Try.prog 57 [.int .i64 (Int.ofNat 0), .int .i64 (Int.ofNat 2), .int .i64 (Int.ofNat 2)] M58 .nilFunc M105 ∧
 ∃ (i106 : Int),
 ∃ (s107 : ByteArray),
 ∃ (s108 : ByteArray),
 ∃ (a109 : Option Addr),
 ∃ (n110 : Nat),
 ∃ (n111 : Nat),
 ∃ (i112 : Int),
 rdVar Try.prog M105 24 (List.length M) 0 =
 some
 (.agg
 (Array.mk [.int .i64 i106, .string s107, .string s108, .slice a109 n110 n111, .int .i64 i112])) ∧
 False)))) :
 Held (wpRet Try.prog 63 true [] [.agg (Array.mk [.int .i64 p00, .string p01, .string p02, .slice p03 p03n p03c, .int .i64 p04])] M K) := held_of (by kernel_rfl) h
theorem w62 {p0 : ByteArray} {M : Mem} {K : Value → Mem → Prop} (h : ∃ (b0 : Bool),
 ∃ (M1 : Mem),
 Ret Try.prog 89 [.string p0] M (.bool b0) M1 ∧
 cnd b0 (K (.bool true) M1)
 ((∃ (x2 : FuncId),
 ∃ (t3 : List Value),
 ∃ (M4 : Mem),
 Ret Try.prog 64 [.slice (some (.mk (List.length M1) 0 none)) 10 10]
 (M1 ++
 [AObj.cells
 [.string (ByteArray.mk #[43]), .string (ByteArray.mk #[45]), .string (ByteArray.mk #[42]), .string (ByteArray.mk #[60]),
 .string (ByteArray.mk #[60, 61]), .string (ByteArray.mk #[61]), .string (ByteArray.mk #[110, 111, 116]),
 .string (ByteArray.mk #[104, 97, 115]), .string (ByteArray.mk #[103, 101, 116]), .string (ByteArray.mk #[115, 101, 116])]
 1 Mode.live])
 (.func (Fn.func x2) (Array.mk []) (Array.mk t3)) M4 ∧
 cnd (walksIn Try.prog x2) (∃ (b5 : Bool), ∃ (M6 : Mem), Ret Try.prog x2 (.string p0 :: t3) M4 (.bool b5) M6 ∧ K (.bool b5) M6) False) ∨
 ∃ (M7 : Mem),
 Ret Try.prog 64 [.slice (some (.mk (List.length M1) 0 none)) 10 10]
 (M1 ++
 [AObj.cells
 [.string (ByteArray.mk #[43]), .string (ByteArray.mk #[45]), .string (ByteArray.mk #[42]), .string (ByteArray.mk #[60]),
 .string (ByteArray.mk #[60, 61]), .string (ByteArray.mk #[61]), .string (ByteArray.mk #[110, 111, 116]), .string (ByteArray.mk #[104, 97, 115]),
 .string (ByteArray.mk #[103, 101, 116]), .string (ByteArray.mk #[115, 101, 116])]
 1 Mode.live])
 .nilFunc M7 ∧
 False)) :
 Held (wpRet Try.prog 62 true [] [.string p0] M K) := held_of (by kernel_rfl) h
theorem w89 {p0 : ByteArray} {M : Mem} {K : Value → Mem → Prop} (h : (∃ (x0 : FuncId),
 ∃ (t1 : List Value),
 ∃ (M2 : Mem),
 Ret Try.prog 64 [.slice (some (.mk (List.length M) 0 none)) 6 6]
 (M ++
 [AObj.cells
 [.string (ByteArray.mk #[105, 110, 116, 63]), .string (ByteArray.mk #[98, 111, 111, 108, 63]), .string (ByteArray.mk #[115, 116, 114, 63]),
 .string (ByteArray.mk #[100, 105, 99, 116, 63]), .string (ByteArray.mk #[102, 117, 110, 63]), .string (ByteArray.mk #[110, 117, 108, 108, 63])]
 1 Mode.live])
 (.func (Fn.func x0) (Array.mk []) (Array.mk t1)) M2 ∧
 cnd (walksIn Try.prog x0) (∃ (b3 : Bool), ∃ (M4 : Mem), Ret Try.prog x0 (.string p0 :: t1) M2 (.bool b3) M4 ∧ K (.bool b3) M4) False) ∨
 ∃ (M5 : Mem),
 Ret Try.prog 64 [.slice (some (.mk (List.length M) 0 none)) 6 6]
 (M ++
 [AObj.cells
 [.string (ByteArray.mk #[105, 110, 116, 63]), .string (ByteArray.mk #[98, 111, 111, 108, 63]), .string (ByteArray.mk #[115, 116, 114, 63]),
 .string (ByteArray.mk #[100, 105, 99, 116, 63]), .string (ByteArray.mk #[102, 117, 110, 63]), .string (ByteArray.mk #[110, 117, 108, 108, 63])]
 1 Mode.live])
 .nilFunc M5 ∧
 False) :
 Held (wpRet Try.prog 89 true [] [.string p0] M K) := held_of (by kernel_rfl) h
theorem w60 {p0 : ByteArray} {M : Mem} {K : Value → Mem → Prop} (h : K (.bool true) M) :
 Held (wpRet Try.prog 60 true [] [.string p0] M K) := held_of (by kernel_rfl) h
theorem w65 {p0 p1 : Int} {M : Mem} {K : Value → Mem → Prop} (h : ∀ (t0 : List Value),
 TIn 17 [(0, .int .i64 p0), (1, .int .i64 p1), (5, .slice none 0 0), (6, .int .i64 (Int.ofNat 0))] t0 →
 ∃ (a1 : Option Addr),
 ∃ (n2 : Nat),
 ∃ (n3 : Nat), ∃ (M4 : Mem), LpT Try.prog (Env.fn 65) [1, 1, 0, 1, 0] t0 [] M false (.exit 0) [(5, .slice a1 n2 n3)] M4 ∧ ∀ (w5 : Nat → Value), K (.slice a1 n2 n3) M4) :
 Held (wpRet Try.prog 65 true ann65 [.int .i64 p0, .int .i64 p1] M K) := held_of (by kernel_rfl) h
theorem loop65_0 {ut0 ut1 : Int} {d : List ADef} {rc : Bool} (Inv : Nat → Option Addr → Nat → Nat → Int → Mem → Prop) (R0 : Option Addr → Nat → Nat → Mem → Prop)
 (step : ∀ (n : Nat) (t5 : Option Addr) (t5n t5c : Nat) (t6 : Int) (M : Mem), Inv n t5 t5n t5c t6 M →
 cnd (!leF ut1 t6)
 (∃ (a0 : Option Addr),
 ∃ (n1 : Nat),
 ∃ (n2 : Nat),
 ∃ (M3 : Mem),
 appendA Try.prog (M ++ [AObj.cells [.int .i64 ut0] 1 Mode.live]) 22 22 (.slice t5 t5n t5c) (.slice (some (.mk (List.length M) 0 none)) 1 1) =
 some (Value.slice a0 n1 n2, M3) ∧
 ∃ (n4 : Nat), n4 < n ∧ Inv n4 a0 n1 n2 (wrapF .i64 (Int.add t6 (Int.ofNat 1))) M3)
 (R0 t5 t5n t5c M) )
 {n : Nat} {t5 : Option Addr} {t5n t5c : Nat} {t6 : Int} {M : Mem} (h0 : Inv n t5 t5n t5c t6 M) {t0 : List Value} (hT : TIn 17 [(0, .int .i64 ut0), (1, .int .i64 ut1), (5, .slice t5 t5n t5c), (6, .int .i64 t6)] t0) :
 (∃ (ot5 : Option Addr) (ot5n ot5c : Nat) (M' : Mem), LpT Try.prog (Env.fn 65) [1, 1, 0, 1, 0] t0 d M rc (.exit 0) [(5, .slice ot5 ot5n ot5c)] M' ∧ R0 ot5 ot5n ot5c M') := by
 rcases loopT (P := Try.prog) (E := (Env.fn 65)) (sym := true) (ann := ann65) (p := [1, 1, 0, 1, 0]) (stepC (codeOf Try.prog 65 [1, 1, 0, 1, 0]) 0) (by kernel_rfl) (by kernel_rfl) [(0, .int .i64 ut0), (1, .int .i64 ut1)] [5, 6] (by kernel_rfl) (fun n xs M => match xs with | [.slice t5 t5n t5c, .int .i64 t6] => Inv n t5 t5n t5c t6 M | _ => False) [((.exit 0), [5], fun xs M => match xs with | [.slice ot5 ot5n ot5c] => R0 ot5 ot5n ot5c M | _ => False)] (fun n xs M h uu => by split at h <;> first | exact h.elim | exact (held_of (by kernel_rfl) (step n _ _ _ _ M h)).ok) (xs := [.slice t5 t5n t5c, .int .i64 t6]) hT rfl h0 with ⟨_, _, h, g⟩
 · split at g <;> first | exact ⟨_, _, _, _, h, g⟩ | exact g.elim

theorem w66 {p0 : ByteArray} {M : Mem} {K : Value → Mem → Prop} (h : cnd (eqS p0 (ByteArray.mk #[115, 101, 116])) (K (.int .i64 (Int.ofNat 3)) M)
 (cnd (eqS p0 (ByteArray.mk #[110, 111, 116])) (K (.int .i64 (Int.ofNat 1)) M)
 (∃ (a0 : Option Addr),
 ∃ (n1 : Nat),
 ∃ (n2 : Nat),
 ∃ (M3 : Mem),
 Ret Try.prog 91 [] M (.slice a0 n1 n2) M3 ∧
 ∃ (b4 : Bool),
 ∃ (M5 : Mem),
 Ret Try.prog 41 [.string p0, .slice a0 n1 n2] M3 (.bool b4) M5 ∧
 cnd b4 (K (.int .i64 (Int.ofNat 1)) M5) (K (.int .i64 (Int.ofNat 2)) M5)))) :
 Held (wpRet Try.prog 66 true [] [.string p0] M K) := held_of (by kernel_rfl) h
theorem w68 {M : Mem} {K : Value → Mem → Prop} (h : ∃ (a0 : Option Addr),
 ∃ (n1 : Nat),
 ∃ (n2 : Nat),
 ∃ (M3 : Mem),
 Ret Try.prog 91 []
 (M ++
 [AObj.cells
 [.string (ByteArray.mk #[43]), .string (ByteArray.mk #[45]), .string (ByteArray.mk #[42]), .string (ByteArray.mk #[60]),
 .string (ByteArray.mk #[60, 61]), .string (ByteArray.mk #[61]), .string (ByteArray.mk #[110, 111, 116]), .string (ByteArray.mk #[104, 97, 115]),
 .string (ByteArray.mk #[103, 101, 116]), .string (ByteArray.mk #[115, 101, 116])]
 1 Mode.live])
 (.slice a0 n1 n2) M3 ∧
 ∃ (a4 : Option Addr),
 ∃ (n5 : Nat),
 ∃ (n6 : Nat),
 ∃ (M7 : Mem),
 appendA Try.prog M3 53 53 (.slice (some (.mk (List.length M) 0 none)) 10 10) (.slice a0 n1 n2) = some (.slice a4 n5 n6, M7) ∧ K (.slice a4 n5 n6) M7) :
 Held (wpRet Try.prog 68 true [] [] M K) := held_of (by kernel_rfl) h
theorem w69 {M : Mem} {K : Value → Mem → Prop} (h : K (.slice (some (.mk (List.length M) 0 none)) 7 7)
 (M ++
 [AObj.cells
 [.string (ByteArray.mk #[84, 111, 112]), .string (ByteArray.mk #[73, 110, 116]), .string (ByteArray.mk #[66, 111, 111, 108]),
 .string (ByteArray.mk #[83, 116, 114]), .string (ByteArray.mk #[68, 105, 99, 116]), .string (ByteArray.mk #[70, 117, 110]),
 .string (ByteArray.mk #[78, 117, 108, 108])]
 1 Mode.live])) :
 Held (wpRet Try.prog 69 true [] [] M K) := held_of (by kernel_rfl) h
theorem w91 {M : Mem} {K : Value → Mem → Prop} (h : K (.slice (some (.mk (List.length M) 0 none)) 6 6)
 (M ++
 [AObj.cells
 [.string (ByteArray.mk #[105, 110, 116, 63]), .string (ByteArray.mk #[98, 111, 111, 108, 63]), .string (ByteArray.mk #[115, 116, 114, 63]),
 .string (ByteArray.mk #[100, 105, 99, 116, 63]), .string (ByteArray.mk #[102, 117, 110, 63]), .string (ByteArray.mk #[110, 117, 108, 108, 63])]
 1 Mode.live])) :
 Held (wpRet Try.prog 91 true [] [] M K) := held_of (by kernel_rfl) h
theorem w56 {p0 p1 : Int} {M : Mem} {K : Value → Mem → Prop} (h : (∃ (x0 : FuncId),
 ∃ (t1 : List Value),
 ∃ (M2 : Mem),
 Ret Try.prog 57 [.int .i64 p0, .int .i64 p1, .int .i64 (Int.ofNat 64)] M (.func (Fn.func x0) (Array.mk []) (Array.mk t1)) M2 ∧
 K (.func (Fn.func x0) (Array.mk []) (Array.mk t1)) M2) ∨
 ∃ (M3 : Mem), Ret Try.prog 57 [.int .i64 p0, .int .i64 p1, .int .i64 (Int.ofNat 64)] M .nilFunc M3 ∧ K .nilFunc M3) :
 Held (wpRet Try.prog 56 true [] [.int .i64 p0, .int .i64 p1] M K) := held_of (by kernel_rfl) h
theorem w42 {p0 p1 : Int} {c0 : Nat} {M : Mem} {K : Value → Mem → Prop} (h : ∃ (i0 : Int),
 rdVar Try.prog M 3 c0 0 = some (.int .i64 i0) ∧
 cnd (leF p0 i0) (∃ (i1 : Int), rdVar Try.prog M 3 c0 0 = some (.int .i64 i1) ∧ K (.bool (leF i1 p1)) M) (K (.bool false) M)) :
 Held (wpRet Try.prog 42 true [] [.int .i64 p0, .int .i64 p1, .pointer (some (.mk c0 0 none))] M K) := held_of (by kernel_rfl) h
theorem w18 {p0 p1 : Int} {M : Mem} {K : Value → Mem → Prop} (h : cnd (eqF p1 (Int.ofNat 0))
 (∃ (b0 : Bool),
 ∃ (M1 : Mem),
 Ret Try.prog 42 [.int .i64 (Int.ofNat 0), .int .i64 (Int.ofNat 12), .pointer (some (.mk (List.length M) 0 none))]
 (M ++ [AObj.cells [.int .i64 p0] 1 Mode.live]) (.bool b0) M1 ∧
 K (.bool b0) M1)
 (cnd (eqF p1 (Int.ofNat 1))
 (∃ (b2 : Bool),
 ∃ (M3 : Mem),
 Ret Try.prog 42 [.int .i64 (Int.ofNat 13), .int .i64 (Int.ofNat 13), .pointer (some (.mk (List.length M) 0 none))]
 (M ++ [AObj.cells [.int .i64 p0] 1 Mode.live]) (.bool b2) M3 ∧
 K (.bool b2) M3)
 (cnd (eqF p1 (Int.ofNat 2))
 (∃ (b4 : Bool),
 ∃ (M5 : Mem),
 Ret Try.prog 42 [.int .i64 (Int.ofNat 14), .int .i64 (Int.ofNat 18), .pointer (some (.mk (List.length M) 0 none))]
 (M ++ [AObj.cells [.int .i64 p0] 1 Mode.live]) (.bool b4) M5 ∧
 K (.bool b4) M5)
 (cnd (eqF p1 (Int.ofNat 3))
 (∃ (b6 : Bool),
 ∃ (M7 : Mem),
 Ret Try.prog 42 [.int .i64 (Int.ofNat 19), .int .i64 (Int.ofNat 30), .pointer (some (.mk (List.length M) 0 none))]
 (M ++ [AObj.cells [.int .i64 p0] 1 Mode.live]) (.bool b6) M7 ∧
 K (.bool b6) M7)
 (cnd (eqF p1 (Int.ofNat 5))
 (∃ (b8 : Bool),
 ∃ (M9 : Mem),
 Ret Try.prog 42 [.int .i64 (Int.ofNat 33), .int .i64 (Int.ofNat 35), .pointer (some (.mk (List.length M) 0 none))]
 (M ++ [AObj.cells [.int .i64 p0] 1 Mode.live]) (.bool b8) M9 ∧
 cnd b8 (K (.bool true) M9)
 (∃ (i10 : Int),
 rdVar Try.prog M9 3 (List.length M) 0 = some (.int .i64 i10) ∧
 ∃ (b11 : Bool), ∃ (M12 : Mem), Ret Try.prog 18 [.int .i64 i10, .int .i64 (Int.ofNat 4)] M9 (.bool b11) M12 ∧ K (.bool b11) M12))
 (cnd (eqF p1 (Int.ofNat 4))
 (∃ (b13 : Bool),
 ∃ (M14 : Mem),
 Ret Try.prog 42 [.int .i64 (Int.ofNat 0), .int .i64 (Int.ofNat 5), .pointer (some (.mk (List.length M) 0 none))]
 (M ++ [AObj.cells [.int .i64 p0] 1 Mode.live]) (.bool b13) M14 ∧
 cnd b13 (K (.bool true) M14)
 (∃ (b15 : Bool),
 ∃ (M16 : Mem),
 Ret Try.prog 42 [.int .i64 (Int.ofNat 31), .int .i64 (Int.ofNat 32), .pointer (some (.mk (List.length M) 0 none))] M14
 (.bool b15) M16 ∧
 K (.bool b15) M16))
 (K (.bool false) (M ++ [AObj.cells [.int .i64 p0] 1 Mode.live])))))))) :
 Held (wpRet Try.prog 18 true [] [.int .i64 p0, .int .i64 p1] M K) := held_of (by kernel_rfl) h
theorem w19 {p0 p1 : Int} {M : Mem} {K : Value → Mem → Prop} (h : cnd (eqF p1 (Int.ofNat 0)) (cnd (leF (Int.ofNat 0) p0) (K (.bool (leF p0 (Int.ofNat 12))) M) (K (.bool false) M))
 (cnd (eqF p1 (Int.ofNat 1)) (K (.bool (eqF p0 (Int.ofNat 13))) M)
 (cnd (eqF p1 (Int.ofNat 2)) (cnd (leF (Int.ofNat 14) p0) (K (.bool (leF p0 (Int.ofNat 18))) M) (K (.bool false) M))
 (cnd (eqF p1 (Int.ofNat 3)) (cnd (leF (Int.ofNat 19) p0) (K (.bool (leF p0 (Int.ofNat 30))) M) (K (.bool false) M))
 (cnd (eqF p1 (Int.ofNat 4))
 (cnd (leF (Int.ofNat 0) p0) (cnd (leF p0 (Int.ofNat 5)) (K (.bool true) M) (cnd (eqF p0 (Int.ofNat 31)) (K (.bool true) M) (K (.bool (eqF p0 (Int.ofNat 32))) M)))
 (cnd (eqF p0 (Int.ofNat 31)) (K (.bool true) M) (K (.bool (eqF p0 (Int.ofNat 32))) M)))
 (cnd (eqF p1 (Int.ofNat 5))
 (∃ (b0 : Bool),
 ∃ (M1 : Mem),
 Ret Try.prog 19 [.int .i64 p0, .int .i64 (Int.ofNat 4)] M (.bool b0) M1 ∧
 cnd b0 (K (.bool true) M1) (cnd (leF (Int.ofNat 33) p0) (K (.bool (leF p0 (Int.ofNat 35))) M1) (K (.bool false) M1)))
 (K (.bool false) M))))))) :
 Held (wpRet Try.prog 19 true [] [.int .i64 p0, .int .i64 p1] M K) := held_of (by kernel_rfl) h
theorem w85 {p0 : Option Addr} {p0n p0c : Nat} {p1 : Int} {M : Mem} {K : Value → Mem → Prop} (h : cnd (!leF (Int.ofNat 0) p1) False
 (∃ (i0 : Int),
 ∃ (i1 : Int),
 ∃ (M2 : Mem),
 Ret Try.prog 101 [.int .u64 (Int.ofNat (p0n % 18446744073709551616)), .int .u64 (IntKind.wrap .u64 p1)] M
 (.tuple (Array.mk [.int .u64 i0, .int .u64 i1])) M2 ∧
 cnd (!leF i0 (Int.ofNat 0)) False
 (cnd (!leF i1 (Int.ofNat 9223372036854775807)) False
 (∃ (a3 : Option Addr),
 ∃ (n4 : Nat),
 ∃ (n5 : Nat),
 ∃ (M6 : Mem),
 makeA Try.prog M2 22 (.int .i64 (IntKind.wrap .i64 i1)) (.int .i64 (IntKind.wrap .i64 i1)) = some (.slice a3 n4 n5, M6) ∧
 ∃ (i7 : Int),
 ∃ (M8 : Mem),
 copyA Try.prog M6 22 (.slice a3 n4 n5) (.slice p0 p0n p0c) = some (.int .i64 i7, M8) ∧
 ∀ (t9 : List Value),
 TIn 48 [(7, .slice a3 n4 n5), (8, .int .i64 i7)] t9 →
 ∃ (M10 : Mem),
 LpT Try.prog (Env.fn 85) [1, 1, 1, 1, 1, 1, 0, 0] t9 [] M8 false (.exit 0) [] M10 ∧ ∀ (w11 : Nat → Value), K (.slice a3 n4 n5) M10)))) :
 Held (wpRet Try.prog 85 true ann85 [.slice p0 p0n p0c, .int .i64 p1] M K) := held_of (by kernel_rfl) h
theorem loop85_0 {ut7 : Option Addr} {ut7n ut7c : Nat} {d : List ADef} {rc : Bool} (Inv : Nat → Int → Mem → Prop) (R0 : Mem → Prop)
 (step : ∀ (n : Nat) (t8 : Int) (M : Mem), Inv n t8 M →
 cnd (!leF (Int.ofNat ut7n) t8)
 (∃ (a0 : Option Addr),
 ∃ (n1 : Nat),
 ∃ (n2 : Nat),
 sliceA Try.prog M 22 (.slice ut7 ut7n ut7c) (some (Value.int .i64 t8)) none none = some (.slice a0 n1 n2) ∧
 ∃ (a3 : Option Addr),
 ∃ (n4 : Nat),
 ∃ (n5 : Nat),
 sliceA Try.prog M 22 (.slice ut7 ut7n ut7c) none (some (Value.int .i64 t8)) none = some (.slice a3 n4 n5) ∧
 ∃ (i6 : Int),
 ∃ (M7 : Mem),
 copyA Try.prog M 22 (.slice a0 n1 n2) (.slice a3 n4 n5) = some (.int .i64 i6, M7) ∧
 True ∧ ∃ (n8 : Nat), n8 < n ∧ Inv n8 (wrapF .i64 (Int.add t8 i6)) M7)
 (R0 M) )
 {n : Nat} {t8 : Int} {M : Mem} (h0 : Inv n t8 M) {t0 : List Value} (hT : TIn 48 [(7, .slice ut7 ut7n ut7c), (8, .int .i64 t8)] t0) :
 (∃ (M' : Mem), LpT Try.prog (Env.fn 85) [1, 1, 1, 1, 1, 1, 0, 0] t0 d M rc (.exit 0) [] M' ∧ R0 M') := by
 rcases loopT (P := Try.prog) (E := (Env.fn 85)) (sym := true) (ann := ann85) (p := [1, 1, 1, 1, 1, 1, 0, 0]) (stepC (codeOf Try.prog 85 [1, 1, 1, 1, 1, 1, 0, 0]) 0) (by kernel_rfl) (by kernel_rfl) [(7, .slice ut7 ut7n ut7c)] [8] (by kernel_rfl) (fun n xs M => match xs with | [.int .i64 t8] => Inv n t8 M | _ => False) [((.exit 0), [], fun xs M => match xs with | [] => R0 M | _ => False)] (fun n xs M h uu => by split at h <;> first | exact h.elim | exact (held_of (by kernel_rfl) (step n _ M h)).ok) (xs := [.int .i64 t8]) hT rfl h0 with ⟨_, _, h, g⟩
 · split at g <;> first | exact ⟨_, h, g⟩ | exact g.elim

theorem w101 {p0 p1 : Int} {M : Mem} {K : Value → Mem → Prop} (h : ∃ (i0 : Int),
 ∃ (i1 : Int),
 ∃ (M2 : Mem),
 Ret Try.prog 107 [.int .u64 p0, .int .u64 p1] M (.tuple (Array.mk [.int .u64 i0, .int .u64 i1])) M2 ∧
 K (.tuple (Array.mk [.int .u64 i0, .int .u64 i1])) M2) :
 Held (wpRet Try.prog 101 true [] [.int .u64 p0, .int .u64 p1] M K) := held_of (by kernel_rfl) h
theorem w12 {p00 : Int} {p01 p02 : ByteArray} {p03 : Option Addr} {p03n p03c : Nat} {p04 : Int} {M : Mem} {K : Value → Mem → Prop} (h : ∃ (n0 : Nat),
 ∃ (M1 : Mem),
 Ret Try.prog 33 [] (M ++ [AObj.cells [.int .i64 p00, .string p01, .string p02, .slice p03 p03n p03c, .int .i64 p04] 5 Mode.live])
 (.map (some n0)) M1 ∧
 ∃ (i2 : Int),
 rdVar Try.prog M1 3 (List.length M) 0 = some (.int .i64 i2) ∧
 ∃ (s3 : ByteArray),
 (∃ (x4 : FuncId),
 ∃ (t5 : List Value),
 ∃ (b6 : Bool),
 (∃ (x7 : FuncId),
 ∃ (t8 : List Value),
 ∃ (b9 : Bool),
 lookupA Try.prog M1 62 (.map (some n0)) (.int .i64 i2) true =
 some
 (.tuple
 (Array.mk
 [.agg
 (Array.mk
 [.string s3, .func (Fn.func x4) (Array.mk []) (Array.mk t5), .bool b6, .func (Fn.func x7) (Array.mk []) (Array.mk t8)]),
 .bool b9])) ∧
 ∃ (M10 : Mem),
 wrCells (M1 ++ [AObj.cells [.string (ByteArray.mk #[]), .nilFunc, .bool false, .nilFunc] 4 Mode.live]) (List.length M1) 0
 [.string s3, .func (Fn.func x4) (Array.mk []) (Array.mk t5), .bool b6, .func (Fn.func x7) (Array.mk []) (Array.mk t8)] =
 some M10 ∧
 (((List.length M <
 List.length
 (M ++
 [AObj.cells [.int .i64 p00, .string p01, .string p02, .slice p03 p03n p03c, .int .i64 p04] 5
 Mode.live]) →
 M1[List.length M]? =
 (M ++
 [AObj.cells [.int .i64 p00, .string p01, .string p02, .slice p03 p03n p03c, .int .i64 p04] 5
 Mode.live])[List.length M]?) ∧
 True) ∧
 True) ∧
 cnd b9
 (∃ (s15 : ByteArray),
 (∃ (x16 : FuncId),
 ∃ (t17 : List Value),
 ∃ (b18 : Bool),
 (∃ (x19 : FuncId),
 ∃ (t20 : List Value),
 rdVar Try.prog M10 60 (List.length M1) 0 =
 some
 (.agg
 (Array.mk
 [.string s15, .func (Fn.func x16) (Array.mk []) (Array.mk t17), .bool b18,
 .func (Fn.func x19) (Array.mk []) (Array.mk t20)])) ∧
 ∃ (i21 : Int),
 ∃ (s22 : ByteArray),
 ∃ (s23 : ByteArray),
 ∃ (a24 : Option Addr),
 ∃ (n25 : Nat),
 ∃ (n26 : Nat),
 ∃ (i27 : Int),
 rdVar Try.prog M10 24 (List.length M) 0 =
 some
 (.agg
 (Array.mk
 [.int .i64 i21, .string s22, .string s23, .slice a24 n25 n26,
 .int .i64 i27])) ∧
 ∃ (a28 : Option Addr),
 ∃ (n29 : Nat),
 ∃ (n30 : Nat),
 ∃ (b31 : Bool),
 ∃ (M32 : Mem),
 Ret Try.prog 34
 [.agg
 (Array.mk
 [.string s15, .func (Fn.func x16) (Array.mk []) (Array.mk t17), .bool b18,
 .func (Fn.func x19) (Array.mk []) (Array.mk t20)]),
 .agg
 (Array.mk
 [.int .i64 i21, .string s22, .string s23, .slice a24 n25 n26,
 .int .i64 i27])]
 M10 (.tuple (Array.mk [.slice a28 n29 n30, .bool b31])) M32 ∧
 K (.tuple (Array.mk [.slice a28 n29 n30, .bool b31])) M32) ∨
 rdVar Try.prog M10 60 (List.length M1) 0 =
 some (Value.agg (Array.mk [.string s15, .func (Fn.func x16) (Array.mk []) (Array.mk t17), .bool b18, .nilFunc])) ∧
 ∃ (i33 : Int),
 ∃ (s34 : ByteArray),
 ∃ (s35 : ByteArray),
 ∃ (a36 : Option Addr),
 ∃ (n37 : Nat),
 ∃ (n38 : Nat),
 ∃ (i39 : Int),
 rdVar Try.prog M10 24 (List.length M) 0 =
 some
 (.agg
 (Array.mk
 [.int .i64 i33, .string s34, .string s35, .slice a36 n37 n38,
 .int .i64 i39])) ∧
 ∃ (a40 : Option Addr),
 ∃ (n41 : Nat),
 ∃ (n42 : Nat),
 ∃ (b43 : Bool),
 ∃ (M44 : Mem),
 Ret Try.prog 34
 [.agg
 (Array.mk
 [.string s15, .func (Fn.func x16) (Array.mk []) (Array.mk t17), .bool b18,
 .nilFunc]),
 .agg
 (Array.mk
 [.int .i64 i33, .string s34, .string s35, .slice a36 n37 n38,
 .int .i64 i39])]
 M10 (.tuple (Array.mk [.slice a40 n41 n42, .bool b43])) M44 ∧
 K (.tuple (Array.mk [.slice a40 n41 n42, .bool b43])) M44) ∨
 ∃ (b45 : Bool),
 (∃ (x46 : FuncId),
 ∃ (t47 : List Value),
 rdVar Try.prog M10 60 (List.length M1) 0 =
 some (Value.agg (Array.mk [.string s15, .nilFunc, .bool b45, .func (Fn.func x46) (Array.mk []) (Array.mk t47)])) ∧
 ∃ (i48 : Int),
 ∃ (s49 : ByteArray),
 ∃ (s50 : ByteArray),
 ∃ (a51 : Option Addr),
 ∃ (n52 : Nat),
 ∃ (n53 : Nat),
 ∃ (i54 : Int),
 rdVar Try.prog M10 24 (List.length M) 0 =
 some
 (.agg
 (Array.mk
 [.int .i64 i48, .string s49, .string s50, .slice a51 n52 n53,
 .int .i64 i54])) ∧
 ∃ (a55 : Option Addr),
 ∃ (n56 : Nat),
 ∃ (n57 : Nat),
 ∃ (b58 : Bool),
 ∃ (M59 : Mem),
 Ret Try.prog 34
 [.agg
 (Array.mk
 [.string s15, .nilFunc, .bool b45,
 .func (Fn.func x46) (Array.mk []) (Array.mk t47)]),
 .agg
 (Array.mk
 [.int .i64 i48, .string s49, .string s50, .slice a51 n52 n53,
 .int .i64 i54])]
 M10 (.tuple (Array.mk [.slice a55 n56 n57, .bool b58])) M59 ∧
 K (.tuple (Array.mk [.slice a55 n56 n57, .bool b58])) M59) ∨
 rdVar Try.prog M10 60 (List.length M1) 0 = some (.agg (Array.mk [.string s15, .nilFunc, .bool b45, .nilFunc])) ∧
 ∃ (i60 : Int),
 ∃ (s61 : ByteArray),
 ∃ (s62 : ByteArray),
 ∃ (a63 : Option Addr),
 ∃ (n64 : Nat),
 ∃ (n65 : Nat),
 ∃ (i66 : Int),
 rdVar Try.prog M10 24 (List.length M) 0 =
 some
 (.agg
 (Array.mk
 [.int .i64 i60, .string s61, .string s62, .slice a63 n64 n65,
 .int .i64 i66])) ∧
 ∃ (a67 : Option Addr),
 ∃ (n68 : Nat),
 ∃ (n69 : Nat),
 ∃ (b70 : Bool),
 ∃ (M71 : Mem),
 Ret Try.prog 34
 [.agg (Array.mk [.string s15, .nilFunc, .bool b45, .nilFunc]),
 .agg
 (Array.mk
 [.int .i64 i60, .string s61, .string s62, .slice a63 n64 n65,
 .int .i64 i66])]
 M10 (.tuple (Array.mk [.slice a67 n68 n69, .bool b70])) M71 ∧
 K (.tuple (Array.mk [.slice a67 n68 n69, .bool b70])) M71)
 (K (.tuple (Array.mk [.slice none 0 0, .bool false])) M10)) ∨
 ∃ (b72 : Bool),
 lookupA Try.prog M1 62 (.map (some n0)) (.int .i64 i2) true =
 some
 (.tuple
 (Array.mk [.agg (Array.mk [.string s3, .func (Fn.func x4) (Array.mk []) (Array.mk t5), .bool b6, .nilFunc]), .bool b72])) ∧
 ∃ (M73 : Mem),
 wrCells (M1 ++ [AObj.cells [.string (ByteArray.mk #[]), .nilFunc, .bool false, .nilFunc] 4 Mode.live]) (List.length M1) 0
 [.string s3, .func (Fn.func x4) (Array.mk []) (Array.mk t5), .bool b6, .nilFunc] =
 some M73 ∧
 (((List.length M <
 List.length
 (M ++
 [AObj.cells [.int .i64 p00, .string p01, .string p02, .slice p03 p03n p03c, .int .i64 p04] 5 Mode.live]) →
 M1[List.length M]? =
 (M ++
 [AObj.cells [.int .i64 p00, .string p01, .string p02, .slice p03 p03n p03c, .int .i64 p04] 5
 Mode.live])[List.length M]?) ∧
 True) ∧
 True) ∧
 cnd b72
 (∃ (s78 : ByteArray),
 (∃ (x79 : FuncId),
 ∃ (t80 : List Value),
 ∃ (b81 : Bool),
 (∃ (x82 : FuncId),
 ∃ (t83 : List Value),
 rdVar Try.prog M73 60 (List.length M1) 0 =
 some
 (.agg
 (Array.mk
 [.string s78, .func (Fn.func x79) (Array.mk []) (Array.mk t80), .bool b81,
 .func (Fn.func x82) (Array.mk []) (Array.mk t83)])) ∧
 ∃ (i84 : Int),
 ∃ (s85 : ByteArray),
 ∃ (s86 : ByteArray),
 ∃ (a87 : Option Addr),
 ∃ (n88 : Nat),
 ∃ (n89 : Nat),
 ∃ (i90 : Int),
 rdVar Try.prog M73 24 (List.length M) 0 =
 some
 (.agg
 (Array.mk
 [.int .i64 i84, .string s85, .string s86, .slice a87 n88 n89,
 .int .i64 i90])) ∧
 ∃ (a91 : Option Addr),
 ∃ (n92 : Nat),
 ∃ (n93 : Nat),
 ∃ (b94 : Bool),
 ∃ (M95 : Mem),
 Ret Try.prog 34
 [.agg
 (Array.mk
 [.string s78, .func (Fn.func x79) (Array.mk []) (Array.mk t80), .bool b81,
 .func (Fn.func x82) (Array.mk []) (Array.mk t83)]),
 .agg
 (Array.mk
 [.int .i64 i84, .string s85, .string s86, .slice a87 n88 n89,
 .int .i64 i90])]
 M73 (.tuple (Array.mk [.slice a91 n92 n93, .bool b94])) M95 ∧
 K (.tuple (Array.mk [.slice a91 n92 n93, .bool b94])) M95) ∨
 rdVar Try.prog M73 60 (List.length M1) 0 =
 some (Value.agg (Array.mk [.string s78, .func (Fn.func x79) (Array.mk []) (Array.mk t80), .bool b81, .nilFunc])) ∧
 ∃ (i96 : Int),
 ∃ (s97 : ByteArray),
 ∃ (s98 : ByteArray),
 ∃ (a99 : Option Addr),
 ∃ (n100 : Nat),
 ∃ (n101 : Nat),
 ∃ (i102 : Int),
 rdVar Try.prog M73 24 (List.length M) 0 =
 some
 (.agg
 (Array.mk
 [.int .i64 i96, .string s97, .string s98, .slice a99 n100 n101,
 .int .i64 i102])) ∧
 ∃ (a103 : Option Addr),
 ∃ (n104 : Nat),
 ∃ (n105 : Nat),
 ∃ (b106 : Bool),
 ∃ (M107 : Mem),
 Ret Try.prog 34
 [.agg
 (Array.mk
 [.string s78, .func (Fn.func x79) (Array.mk []) (Array.mk t80), .bool b81, .nilFunc]),
 .agg
 (Array.mk
 [.int .i64 i96, .string s97, .string s98, .slice a99 n100 n101,
 .int .i64 i102])]
 M73 (.tuple (Array.mk [.slice a103 n104 n105, .bool b106])) M107 ∧
 K (.tuple (Array.mk [.slice a103 n104 n105, .bool b106])) M107) ∨
 ∃ (b108 : Bool),
 (∃ (x109 : FuncId),
 ∃ (t110 : List Value),
 rdVar Try.prog M73 60 (List.length M1) 0 =
 some (Value.agg (Array.mk [.string s78, .nilFunc, .bool b108, .func (Fn.func x109) (Array.mk []) (Array.mk t110)])) ∧
 ∃ (i111 : Int),
 ∃ (s112 : ByteArray),
 ∃ (s113 : ByteArray),
 ∃ (a114 : Option Addr),
 ∃ (n115 : Nat),
 ∃ (n116 : Nat),
 ∃ (i117 : Int),
 rdVar Try.prog M73 24 (List.length M) 0 =
 some
 (.agg
 (Array.mk
 [.int .i64 i111, .string s112, .string s113, .slice a114 n115 n116,
 .int .i64 i117])) ∧
 ∃ (a118 : Option Addr),
 ∃ (n119 : Nat),
 ∃ (n120 : Nat),
 ∃ (b121 : Bool),
 ∃ (M122 : Mem),
 Ret Try.prog 34
 [.agg
 (Array.mk
 [.string s78, .nilFunc, .bool b108,
 .func (Fn.func x109) (Array.mk []) (Array.mk t110)]),
 .agg
 (Array.mk
 [.int .i64 i111, .string s112, .string s113, .slice a114 n115 n116,
 .int .i64 i117])]
 M73 (.tuple (Array.mk [.slice a118 n119 n120, .bool b121])) M122 ∧
 K (.tuple (Array.mk [.slice a118 n119 n120, .bool b121])) M122) ∨
 rdVar Try.prog M73 60 (List.length M1) 0 = some (.agg (Array.mk [.string s78, .nilFunc, .bool b108, .nilFunc])) ∧
 ∃ (i123 : Int),
 ∃ (s124 : ByteArray),
 ∃ (s125 : ByteArray),
 ∃ (a126 : Option Addr),
 ∃ (n127 : Nat),
 ∃ (n128 : Nat),
 ∃ (i129 : Int),
 rdVar Try.prog M73 24 (List.length M) 0 =
 some
 (.agg
 (Array.mk
 [.int .i64 i123, .string s124, .string s125, .slice a126 n127 n128,
 .int .i64 i129])) ∧
 ∃ (a130 : Option Addr),
 ∃ (n131 : Nat),
 ∃ (n132 : Nat),
 ∃ (b133 : Bool),
 ∃ (M134 : Mem),
 Ret Try.prog 34
 [.agg (Array.mk [.string s78, .nilFunc, .bool b108, .nilFunc]),
 .agg
 (Array.mk
 [.int .i64 i123, .string s124, .string s125, .slice a126 n127 n128,
 .int .i64 i129])]
 M73 (.tuple (Array.mk [.slice a130 n131 n132, .bool b133])) M134 ∧
 K (.tuple (Array.mk [.slice a130 n131 n132, .bool b133])) M134)
 (K (.tuple (Array.mk [.slice none 0 0, .bool false])) M73)) ∨
 ∃ (b135 : Bool),
 (∃ (x136 : FuncId),
 ∃ (t137 : List Value),
 ∃ (b138 : Bool),
 lookupA Try.prog M1 62 (.map (some n0)) (.int .i64 i2) true =
 some
 (.tuple
 (Array.mk
 [.agg (Array.mk [.string s3, .nilFunc, .bool b135, .func (Fn.func x136) (Array.mk []) (Array.mk t137)]), .bool b138])) ∧
 ∃ (M139 : Mem),
 wrCells (M1 ++ [AObj.cells [.string (ByteArray.mk #[]), .nilFunc, .bool false, .nilFunc] 4 Mode.live]) (List.length M1) 0
 [.string s3, .nilFunc, .bool b135, .func (Fn.func x136) (Array.mk []) (Array.mk t137)] =
 some M139 ∧
 (((List.length M <
 List.length
 (M ++
 [AObj.cells [.int .i64 p00, .string p01, .string p02, .slice p03 p03n p03c, .int .i64 p04] 5 Mode.live]) →
 M1[List.length M]? =
 (M ++
 [AObj.cells [.int .i64 p00, .string p01, .string p02, .slice p03 p03n p03c, .int .i64 p04] 5
 Mode.live])[List.length M]?) ∧
 True) ∧
 True) ∧
 cnd b138
 (∃ (s144 : ByteArray),
 (∃ (x145 : FuncId),
 ∃ (t146 : List Value),
 ∃ (b147 : Bool),
 (∃ (x148 : FuncId),
 ∃ (t149 : List Value),
 rdVar Try.prog M139 60 (List.length M1) 0 =
 some
 (.agg
 (Array.mk
 [.string s144, .func (Fn.func x145) (Array.mk []) (Array.mk t146), .bool b147,
 .func (Fn.func x148) (Array.mk []) (Array.mk t149)])) ∧
 ∃ (i150 : Int),
 ∃ (s151 : ByteArray),
 ∃ (s152 : ByteArray),
 ∃ (a153 : Option Addr),
 ∃ (n154 : Nat),
 ∃ (n155 : Nat),
 ∃ (i156 : Int),
 rdVar Try.prog M139 24 (List.length M) 0 =
 some
 (.agg
 (Array.mk
 [.int .i64 i150, .string s151, .string s152, .slice a153 n154 n155,
 .int .i64 i156])) ∧
 ∃ (a157 : Option Addr),
 ∃ (n158 : Nat),
 ∃ (n159 : Nat),
 ∃ (b160 : Bool),
 ∃ (M161 : Mem),
 Ret Try.prog 34
 [.agg
 (Array.mk
 [.string s144, .func (Fn.func x145) (Array.mk []) (Array.mk t146), .bool b147,
 .func (Fn.func x148) (Array.mk []) (Array.mk t149)]),
 .agg
 (Array.mk
 [.int .i64 i150, .string s151, .string s152, .slice a153 n154 n155,
 .int .i64 i156])]
 M139 (.tuple (Array.mk [.slice a157 n158 n159, .bool b160])) M161 ∧
 K (.tuple (Array.mk [.slice a157 n158 n159, .bool b160])) M161) ∨
 rdVar Try.prog M139 60 (List.length M1) 0 =
 some (Value.agg (Array.mk [.string s144, .func (Fn.func x145) (Array.mk []) (Array.mk t146), .bool b147, .nilFunc])) ∧
 ∃ (i162 : Int),
 ∃ (s163 : ByteArray),
 ∃ (s164 : ByteArray),
 ∃ (a165 : Option Addr),
 ∃ (n166 : Nat),
 ∃ (n167 : Nat),
 ∃ (i168 : Int),
 rdVar Try.prog M139 24 (List.length M) 0 =
 some
 (.agg
 (Array.mk
 [.int .i64 i162, .string s163, .string s164, .slice a165 n166 n167,
 .int .i64 i168])) ∧
 ∃ (a169 : Option Addr),
 ∃ (n170 : Nat),
 ∃ (n171 : Nat),
 ∃ (b172 : Bool),
 ∃ (M173 : Mem),
 Ret Try.prog 34
 [.agg
 (Array.mk
 [.string s144, .func (Fn.func x145) (Array.mk []) (Array.mk t146), .bool b147,
 .nilFunc]),
 .agg
 (Array.mk
 [.int .i64 i162, .string s163, .string s164, .slice a165 n166 n167,
 .int .i64 i168])]
 M139 (.tuple (Array.mk [.slice a169 n170 n171, .bool b172])) M173 ∧
 K (.tuple (Array.mk [.slice a169 n170 n171, .bool b172])) M173) ∨
 ∃ (b174 : Bool),
 (∃ (x175 : FuncId),
 ∃ (t176 : List Value),
 rdVar Try.prog M139 60 (List.length M1) 0 =
 some (Value.agg (Array.mk [.string s144, .nilFunc, .bool b174, .func (Fn.func x175) (Array.mk []) (Array.mk t176)])) ∧
 ∃ (i177 : Int),
 ∃ (s178 : ByteArray),
 ∃ (s179 : ByteArray),
 ∃ (a180 : Option Addr),
 ∃ (n181 : Nat),
 ∃ (n182 : Nat),
 ∃ (i183 : Int),
 rdVar Try.prog M139 24 (List.length M) 0 =
 some
 (.agg
 (Array.mk
 [.int .i64 i177, .string s178, .string s179, .slice a180 n181 n182,
 .int .i64 i183])) ∧
 ∃ (a184 : Option Addr),
 ∃ (n185 : Nat),
 ∃ (n186 : Nat),
 ∃ (b187 : Bool),
 ∃ (M188 : Mem),
 Ret Try.prog 34
 [.agg
 (Array.mk
 [.string s144, .nilFunc, .bool b174,
 .func (Fn.func x175) (Array.mk []) (Array.mk t176)]),
 .agg
 (Array.mk
 [.int .i64 i177, .string s178, .string s179, .slice a180 n181 n182,
 .int .i64 i183])]
 M139 (.tuple (Array.mk [.slice a184 n185 n186, .bool b187])) M188 ∧
 K (.tuple (Array.mk [.slice a184 n185 n186, .bool b187])) M188) ∨
 rdVar Try.prog M139 60 (List.length M1) 0 = some (.agg (Array.mk [.string s144, .nilFunc, .bool b174, .nilFunc])) ∧
 ∃ (i189 : Int),
 ∃ (s190 : ByteArray),
 ∃ (s191 : ByteArray),
 ∃ (a192 : Option Addr),
 ∃ (n193 : Nat),
 ∃ (n194 : Nat),
 ∃ (i195 : Int),
 rdVar Try.prog M139 24 (List.length M) 0 =
 some
 (.agg
 (Array.mk
 [.int .i64 i189, .string s190, .string s191, .slice a192 n193 n194,
 .int .i64 i195])) ∧
 ∃ (a196 : Option Addr),
 ∃ (n197 : Nat),
 ∃ (n198 : Nat),
 ∃ (b199 : Bool),
 ∃ (M200 : Mem),
 Ret Try.prog 34
 [.agg (Array.mk [.string s144, .nilFunc, .bool b174, .nilFunc]),
 .agg
 (Array.mk
 [.int .i64 i189, .string s190, .string s191, .slice a192 n193 n194,
 .int .i64 i195])]
 M139 (.tuple (Array.mk [.slice a196 n197 n198, .bool b199])) M200 ∧
 K (.tuple (Array.mk [.slice a196 n197 n198, .bool b199])) M200)
 (K (.tuple (Array.mk [.slice none 0 0, .bool false])) M139)) ∨
 ∃ (b201 : Bool),
 lookupA Try.prog M1 62 (.map (some n0)) (.int .i64 i2) true =
 some (Value.tuple (Array.mk [.agg (Array.mk [.string s3, .nilFunc, .bool b135, .nilFunc]), .bool b201])) ∧
 ∃ (M202 : Mem),
 wrCells (M1 ++ [AObj.cells [.string (ByteArray.mk #[]), .nilFunc, .bool false, .nilFunc] 4 Mode.live]) (List.length M1) 0
 [.string s3, .nilFunc, .bool b135, .nilFunc] =
 some M202 ∧
 (((List.length M <
 List.length
 (M ++ [AObj.cells [.int .i64 p00, .string p01, .string p02, .slice p03 p03n p03c, .int .i64 p04] 5 Mode.live]) →
 M1[List.length M]? =
 (M ++
 [AObj.cells [.int .i64 p00, .string p01, .string p02, .slice p03 p03n p03c, .int .i64 p04] 5
 Mode.live])[List.length M]?) ∧
 True) ∧
 True) ∧
 cnd b201
 (∃ (s207 : ByteArray),
 (∃ (x208 : FuncId),
 ∃ (t209 : List Value),
 ∃ (b210 : Bool),
 (∃ (x211 : FuncId),
 ∃ (t212 : List Value),
 rdVar Try.prog M202 60 (List.length M1) 0 =
 some
 (.agg
 (Array.mk
 [.string s207, .func (Fn.func x208) (Array.mk []) (Array.mk t209), .bool b210,
 .func (Fn.func x211) (Array.mk []) (Array.mk t212)])) ∧
 ∃ (i213 : Int),
 ∃ (s214 : ByteArray),
 ∃ (s215 : ByteArray),
 ∃ (a216 : Option Addr),
 ∃ (n217 : Nat),
 ∃ (n218 : Nat),
 ∃ (i219 : Int),
 rdVar Try.prog M202 24 (List.length M) 0 =
 some
 (.agg
 (Array.mk
 [.int .i64 i213, .string s214, .string s215, .slice a216 n217 n218,
 .int .i64 i219])) ∧
 ∃ (a220 : Option Addr),
 ∃ (n221 : Nat),
 ∃ (n222 : Nat),
 ∃ (b223 : Bool),
 ∃ (M224 : Mem),
 Ret Try.prog 34
 [.agg
 (Array.mk
 [.string s207, .func (Fn.func x208) (Array.mk []) (Array.mk t209), .bool b210,
 .func (Fn.func x211) (Array.mk []) (Array.mk t212)]),
 .agg
 (Array.mk
 [.int .i64 i213, .string s214, .string s215, .slice a216 n217 n218,
 .int .i64 i219])]
 M202 (.tuple (Array.mk [.slice a220 n221 n222, .bool b223])) M224 ∧
 K (.tuple (Array.mk [.slice a220 n221 n222, .bool b223])) M224) ∨
 rdVar Try.prog M202 60 (List.length M1) 0 =
 some (Value.agg (Array.mk [.string s207, .func (Fn.func x208) (Array.mk []) (Array.mk t209), .bool b210, .nilFunc])) ∧
 ∃ (i225 : Int),
 ∃ (s226 : ByteArray),
 ∃ (s227 : ByteArray),
 ∃ (a228 : Option Addr),
 ∃ (n229 : Nat),
 ∃ (n230 : Nat),
 ∃ (i231 : Int),
 rdVar Try.prog M202 24 (List.length M) 0 =
 some
 (.agg
 (Array.mk
 [.int .i64 i225, .string s226, .string s227, .slice a228 n229 n230,
 .int .i64 i231])) ∧
 ∃ (a232 : Option Addr),
 ∃ (n233 : Nat),
 ∃ (n234 : Nat),
 ∃ (b235 : Bool),
 ∃ (M236 : Mem),
 Ret Try.prog 34
 [.agg
 (Array.mk
 [.string s207, .func (Fn.func x208) (Array.mk []) (Array.mk t209), .bool b210, .nilFunc]),
 .agg
 (Array.mk
 [.int .i64 i225, .string s226, .string s227, .slice a228 n229 n230,
 .int .i64 i231])]
 M202 (.tuple (Array.mk [.slice a232 n233 n234, .bool b235])) M236 ∧
 K (.tuple (Array.mk [.slice a232 n233 n234, .bool b235])) M236) ∨
 ∃ (b237 : Bool),
 (∃ (x238 : FuncId),
 ∃ (t239 : List Value),
 rdVar Try.prog M202 60 (List.length M1) 0 =
 some (Value.agg (Array.mk [.string s207, .nilFunc, .bool b237, .func (Fn.func x238) (Array.mk []) (Array.mk t239)])) ∧
 ∃ (i240 : Int),
 ∃ (s241 : ByteArray),
 ∃ (s242 : ByteArray),
 ∃ (a243 : Option Addr),
 ∃ (n244 : Nat),
 ∃ (n245 : Nat),
 ∃ (i246 : Int),
 rdVar Try.prog M202 24 (List.length M) 0 =
 some
 (.agg
 (Array.mk
 [.int .i64 i240, .string s241, .string s242, .slice a243 n244 n245,
 .int .i64 i246])) ∧
 ∃ (a247 : Option Addr),
 ∃ (n248 : Nat),
 ∃ (n249 : Nat),
 ∃ (b250 : Bool),
 ∃ (M251 : Mem),
 Ret Try.prog 34
 [.agg
 (Array.mk
 [.string s207, .nilFunc, .bool b237, .func (Fn.func x238) (Array.mk []) (Array.mk t239)]),
 .agg
 (Array.mk
 [.int .i64 i240, .string s241, .string s242, .slice a243 n244 n245,
 .int .i64 i246])]
 M202 (.tuple (Array.mk [.slice a247 n248 n249, .bool b250])) M251 ∧
 K (.tuple (Array.mk [.slice a247 n248 n249, .bool b250])) M251) ∨
 rdVar Try.prog M202 60 (List.length M1) 0 = some (.agg (Array.mk [.string s207, .nilFunc, .bool b237, .nilFunc])) ∧
 ∃ (i252 : Int),
 ∃ (s253 : ByteArray),
 ∃ (s254 : ByteArray),
 ∃ (a255 : Option Addr),
 ∃ (n256 : Nat),
 ∃ (n257 : Nat),
 ∃ (i258 : Int),
 rdVar Try.prog M202 24 (List.length M) 0 =
 some
 (.agg
 (Array.mk
 [.int .i64 i252, .string s253, .string s254, .slice a255 n256 n257, .int .i64 i258])) ∧
 ∃ (a259 : Option Addr),
 ∃ (n260 : Nat),
 ∃ (n261 : Nat),
 ∃ (b262 : Bool),
 ∃ (M263 : Mem),
 Ret Try.prog 34
 [.agg (Array.mk [.string s207, .nilFunc, .bool b237, .nilFunc]),
 .agg
 (Array.mk
 [.int .i64 i252, .string s253, .string s254, .slice a255 n256 n257,
 .int .i64 i258])]
 M202 (.tuple (Array.mk [.slice a259 n260 n261, .bool b262])) M263 ∧
 K (.tuple (Array.mk [.slice a259 n260 n261, .bool b262])) M263)
 (K (.tuple (Array.mk [.slice none 0 0, .bool false])) M202)) :
 Held (wpRet Try.prog 12 true [] [.agg (Array.mk [.int .i64 p00, .string p01, .string p02, .slice p03 p03n p03c, .int .i64 p04])] M K) := held_of (by kernel_rfl) h
theorem w14 {p0 : Int} {M : Mem} {K : Value → Mem → Prop} (h : ∃ (n0 : Nat),
 ∃ (M1 : Mem),
 Ret Try.prog 33 [] M (.map (some n0)) M1 ∧
 ∃ (s2 : ByteArray),
 (∃ (x3 : FuncId),
 ∃ (t4 : List Value),
 ∃ (b5 : Bool),
 (∃ (x6 : FuncId),
 ∃ (t7 : List Value),
 lookupA Try.prog M1 62 (.map (some n0)) (.int .i64 p0) false =
 some
 (.agg
 (Array.mk [.string s2, .func (Fn.func x3) (Array.mk []) (Array.mk t4), .bool b5, .func (Fn.func x6) (Array.mk []) (Array.mk t7)])) ∧
 K (.string s2) M1) ∨
 lookupA Try.prog M1 62 (.map (some n0)) (.int .i64 p0) false =
 some (Value.agg (Array.mk [.string s2, .func (Fn.func x3) (Array.mk []) (Array.mk t4), .bool b5, .nilFunc])) ∧
 K (.string s2) M1) ∨
 ∃ (b8 : Bool),
 (∃ (x9 : FuncId),
 ∃ (t10 : List Value),
 lookupA Try.prog M1 62 (.map (some n0)) (.int .i64 p0) false =
 some (Value.agg (Array.mk [.string s2, .nilFunc, .bool b8, .func (Fn.func x9) (Array.mk []) (Array.mk t10)])) ∧
 K (.string s2) M1) ∨
 lookupA Try.prog M1 62 (.map (some n0)) (.int .i64 p0) false = some (.agg (Array.mk [.string s2, .nilFunc, .bool b8, .nilFunc])) ∧
 K (.string s2) M1) :
 Held (wpRet Try.prog 14 true [] [.int .i64 p0] M K) := held_of (by kernel_rfl) h
theorem w34 {p00 : ByteArray} {p01 : Value} {p02 : Bool} {p03 : Value} {p10 : Int} {p11 p12 : ByteArray} {p13 : Option Addr} {p13n p13c : Nat} {p14 : Int} {M : Mem} {K : Value → Mem → Prop} (h : ∃ (s0 : ByteArray),
 rdVar Try.prog
 (M ++ [AObj.cells [.string p00, p01, .bool p02, p03] 4 Mode.live] ++
 [AObj.cells [.int .i64 p10, .string p11, .string p12, .slice p13 p13n p13c, .int .i64 p14] 5 Mode.live])
 9 (List.length (M ++ [AObj.cells [.string p00, p01, .bool p02, p03] 4 Mode.live])) 1 =
 some (Value.string s0) ∧
 ((∃ (x1 : FuncId),
 ∃ (t2 : List Value),
 rdVar Try.prog
 (M ++ [AObj.cells [.string p00, p01, .bool p02, p03] 4 Mode.live] ++
 [AObj.cells [.int .i64 p10, .string p11, .string p12, .slice p13 p13n p13c, .int .i64 p14] 5 Mode.live])
 38 (List.length M) 1 =
 some (Value.func (Fn.func x1) (Array.mk []) (Array.mk t2)) ∧
 ∃ (b3 : Bool),
 binA Try.prog BinOp.neq 38 (Operand.tmp 14) (Operand.const .nilFunc) (.func (Fn.func x1) (Array.mk []) (Array.mk t2)) .nilFunc = some (.bool b3) ∧
 cnd b3
 ((∃ (x4 : FuncId),
 ∃ (t5 : List Value),
 rdVar Try.prog
 (M ++ [AObj.cells [.string p00, p01, .bool p02, p03] 4 Mode.live] ++
 [AObj.cells [.int .i64 p10, .string p11, .string p12, .slice p13 p13n p13c, .int .i64 p14] 5 Mode.live])
 38 (List.length M) 1 =
 some (Value.func (Fn.func x4) (Array.mk []) (Array.mk t5)) ∧
 ∃ (s6 : ByteArray),
 rdVar Try.prog
 (M ++ [AObj.cells [.string p00, p01, .bool p02, p03] 4 Mode.live] ++
 [AObj.cells [.int .i64 p10, .string p11, .string p12, .slice p13 p13n p13c, .int .i64 p14] 5 Mode.live])
 9 (List.length (M ++ [AObj.cells [.string p00, p01, .bool p02, p03] 4 Mode.live])) 1 =
 some (Value.string s6) ∧
 cnd (walksIn Try.prog x4)
 (∃ (b7 : Bool),
 ∃ (M8 : Mem),
 Ret Try.prog x4 (.string s6 :: t5)
 (M ++ [AObj.cells [.string p00, p01, .bool p02, p03] 4 Mode.live] ++
 [AObj.cells [.int .i64 p10, .string p11, .string p12, .slice p13 p13n p13c, .int .i64 p14] 5 Mode.live])
 (.bool b7) M8 ∧
 ∃ (s9 : ByteArray),
 rdVar Try.prog M8 9 (List.length (M ++ [AObj.cells [.string p00, p01, .bool p02, p03] 4 Mode.live])) 2 = some (.string s9) ∧
 ∃ (b10 : Bool),
 rdVar Try.prog M8 4 (List.length M) 2 = some (.bool b10) ∧
 cnd b10
 (∃ (s11 : ByteArray),
 rdVar Try.prog M8 9 (List.length (M ++ [AObj.cells [.string p00, p01, .bool p02, p03] 4 Mode.live])) 2 = some (.string s11) ∧
 ∃ (b12 : Bool),
 ∃ (M13 : Mem),
 Ret Try.prog 16 [.string s11] M8 (.bool b12) M13 ∧
 ((∃ (x14 : FuncId),
 ∃ (t15 : List Value),
 rdVar Try.prog M13 36 (List.length M) 3 = some (.func (Fn.func x14) (Array.mk []) (Array.mk t15)) ∧
 ∃ (i16 : Int),
 ∃ (s17 : ByteArray),
 ∃ (s18 : ByteArray),
 ∃ (a19 : Option Addr),
 ∃ (n20 : Nat),
 ∃ (n21 : Nat),
 ∃ (i22 : Int),
 rdVar Try.prog M13 24
 (List.length (M ++ [AObj.cells [.string p00, p01, .bool p02, p03] 4 Mode.live])) 0 =
 some
 (.agg
 (Array.mk
 [.int .i64 i16, .string s17, .string s18, .slice a19 n20 n21,
 .int .i64 i22])) ∧
 cnd (walksIn Try.prog x14)
 (∃ (a23 : Option Addr),
 ∃ (n24 : Nat),
 ∃ (n25 : Nat),
 ∃ (b26 : Bool),
 ∃ (M27 : Mem),
 Ret Try.prog x14
 (.agg
 (Array.mk
 [.int .i64 i16, .string s17, .string s18,
 .slice a19 n20 n21, .int .i64 i22]) ::
 t15)
 M13 (.tuple (Array.mk [.slice a23 n24 n25, .bool b26])) M27 ∧
 cnd b26
 (cnd b7
 (cnd b12 (K (.tuple (Array.mk [.slice a23 n24 n25, .bool true])) M27)
 (K (.tuple (Array.mk [.slice none 0 0, .bool false])) M27))
 (K (.tuple (Array.mk [.slice none 0 0, .bool false])) M27))
 (K (.tuple (Array.mk [.slice none 0 0, .bool false])) M27))
 False) ∨
 rdVar Try.prog M13 36 (List.length M) 3 = some .nilFunc ∧
 ∃ (i28 : Int),
 ∃ (s29 : ByteArray),
 ∃ (s30 : ByteArray),
 ∃ (a31 : Option Addr),
 ∃ (n32 : Nat),
 ∃ (n33 : Nat),
 ∃ (i34 : Int),
 rdVar Try.prog M13 24 (List.length (M ++ [AObj.cells [.string p00, p01, .bool p02, p03] 4 Mode.live]))
 0 =
 some
 (.agg
 (Array.mk
 [.int .i64 i28, .string s29, .string s30, .slice a31 n32 n33,
 .int .i64 i34])) ∧
 False))
 ((∃ (x35 : FuncId),
 ∃ (t36 : List Value),
 rdVar Try.prog M8 36 (List.length M) 3 = some (.func (Fn.func x35) (Array.mk []) (Array.mk t36)) ∧
 ∃ (i37 : Int),
 ∃ (s38 : ByteArray),
 ∃ (s39 : ByteArray),
 ∃ (a40 : Option Addr),
 ∃ (n41 : Nat),
 ∃ (n42 : Nat),
 ∃ (i43 : Int),
 rdVar Try.prog M8 24 (List.length (M ++ [AObj.cells [.string p00, p01, .bool p02, p03] 4 Mode.live])) 0 =
 some
 (.agg
 (Array.mk
 [.int .i64 i37, .string s38, .string s39, .slice a40 n41 n42,
 .int .i64 i43])) ∧
 cnd (walksIn Try.prog x35)
 (∃ (a44 : Option Addr),
 ∃ (n45 : Nat),
 ∃ (n46 : Nat),
 ∃ (b47 : Bool),
 ∃ (M48 : Mem),
 Ret Try.prog x35
 (.agg
 (Array.mk
 [.int .i64 i37, .string s38, .string s39, .slice a40 n41 n42,
 .int .i64 i43]) ::
 t36)
 M8 (.tuple (Array.mk [.slice a44 n45 n46, .bool b47])) M48 ∧
 cnd b47
 (cnd b7
 (cnd (eqS s9 (ByteArray.mk #[]))
 (K (.tuple (Array.mk [.slice a44 n45 n46, .bool true])) M48)
 (K (.tuple (Array.mk [.slice none 0 0, .bool false])) M48))
 (K (.tuple (Array.mk [.slice none 0 0, .bool false])) M48))
 (K (.tuple (Array.mk [.slice none 0 0, .bool false])) M48))
 False) ∨
 rdVar Try.prog M8 36 (List.length M) 3 = some .nilFunc ∧
 ∃ (i49 : Int),
 ∃ (s50 : ByteArray),
 ∃ (s51 : ByteArray),
 ∃ (a52 : Option Addr),
 ∃ (n53 : Nat),
 ∃ (n54 : Nat),
 ∃ (i55 : Int),
 rdVar Try.prog M8 24 (List.length (M ++ [AObj.cells [.string p00, p01, .bool p02, p03] 4 Mode.live])) 0 =
 some
 (.agg
 (Array.mk
 [.int .i64 i49, .string s50, .string s51, .slice a52 n53 n54,
 .int .i64 i55])) ∧
 False))
 False) ∨
 rdVar Try.prog
 (M ++ [AObj.cells [.string p00, p01, .bool p02, p03] 4 Mode.live] ++
 [AObj.cells [.int .i64 p10, .string p11, .string p12, .slice p13 p13n p13c, .int .i64 p14] 5 Mode.live])
 38 (List.length M) 1 =
 some .nilFunc ∧
 ∃ (s56 : ByteArray),
 rdVar Try.prog
 (M ++ [AObj.cells [.string p00, p01, .bool p02, p03] 4 Mode.live] ++
 [AObj.cells [.int .i64 p10, .string p11, .string p12, .slice p13 p13n p13c, .int .i64 p14] 5 Mode.live])
 9 (List.length (M ++ [AObj.cells [.string p00, p01, .bool p02, p03] 4 Mode.live])) 1 =
 some (Value.string s56) ∧
 False)
 (∃ (s57 : ByteArray),
 rdVar Try.prog
 (M ++ [AObj.cells [.string p00, p01, .bool p02, p03] 4 Mode.live] ++
 [AObj.cells [.int .i64 p10, .string p11, .string p12, .slice p13 p13n p13c, .int .i64 p14] 5 Mode.live])
 9 (List.length (M ++ [AObj.cells [.string p00, p01, .bool p02, p03] 4 Mode.live])) 2 =
 some (Value.string s57) ∧
 ∃ (b58 : Bool),
 rdVar Try.prog
 (M ++ [AObj.cells [.string p00, p01, .bool p02, p03] 4 Mode.live] ++
 [AObj.cells [.int .i64 p10, .string p11, .string p12, .slice p13 p13n p13c, .int .i64 p14] 5 Mode.live])
 4 (List.length M) 2 =
 some (Value.bool b58) ∧
 cnd b58
 (∃ (s59 : ByteArray),
 rdVar Try.prog
 (M ++ [AObj.cells [.string p00, p01, .bool p02, p03] 4 Mode.live] ++
 [AObj.cells [.int .i64 p10, .string p11, .string p12, .slice p13 p13n p13c, .int .i64 p14] 5 Mode.live])
 9 (List.length (M ++ [AObj.cells [.string p00, p01, .bool p02, p03] 4 Mode.live])) 2 =
 some (Value.string s59) ∧
 ∃ (b60 : Bool),
 ∃ (M61 : Mem),
 Ret Try.prog 16 [.string s59]
 (M ++ [AObj.cells [.string p00, p01, .bool p02, p03] 4 Mode.live] ++
 [AObj.cells [.int .i64 p10, .string p11, .string p12, .slice p13 p13n p13c, .int .i64 p14] 5 Mode.live])
 (.bool b60) M61 ∧
 ((∃ (x62 : FuncId),
 ∃ (t63 : List Value),
 rdVar Try.prog M61 36 (List.length M) 3 = some (.func (Fn.func x62) (Array.mk []) (Array.mk t63)) ∧
 ∃ (i64 : Int),
 ∃ (s65 : ByteArray),
 ∃ (s66 : ByteArray),
 ∃ (a67 : Option Addr),
 ∃ (n68 : Nat),
 ∃ (n69 : Nat),
 ∃ (i70 : Int),
 rdVar Try.prog M61 24 (List.length (M ++ [AObj.cells [.string p00, p01, .bool p02, p03] 4 Mode.live])) 0 =
 some
 (.agg
 (Array.mk
 [.int .i64 i64, .string s65, .string s66, .slice a67 n68 n69, .int .i64 i70])) ∧
 cnd (walksIn Try.prog x62)
 (∃ (a71 : Option Addr),
 ∃ (n72 : Nat),
 ∃ (n73 : Nat),
 ∃ (b74 : Bool),
 ∃ (M75 : Mem),
 Ret Try.prog x62
 (.agg
 (Array.mk
 [.int .i64 i64, .string s65, .string s66, .slice a67 n68 n69,
 .int .i64 i70]) ::
 t63)
 M61 (.tuple (Array.mk [.slice a71 n72 n73, .bool b74])) M75 ∧
 cnd b74
 (cnd (eqS s0 (ByteArray.mk #[]))
 (cnd b60 (K (.tuple (Array.mk [.slice a71 n72 n73, .bool true])) M75)
 (K (.tuple (Array.mk [.slice none 0 0, .bool false])) M75))
 (K (.tuple (Array.mk [.slice none 0 0, .bool false])) M75))
 (K (.tuple (Array.mk [.slice none 0 0, .bool false])) M75))
 False) ∨
 rdVar Try.prog M61 36 (List.length M) 3 = some .nilFunc ∧
 ∃ (i76 : Int),
 ∃ (s77 : ByteArray),
 ∃ (s78 : ByteArray),
 ∃ (a79 : Option Addr),
 ∃ (n80 : Nat),
 ∃ (n81 : Nat),
 ∃ (i82 : Int),
 rdVar Try.prog M61 24 (List.length (M ++ [AObj.cells [.string p00, p01, .bool p02, p03] 4 Mode.live])) 0 =
 some
 (.agg
 (Array.mk
 [.int .i64 i76, .string s77, .string s78, .slice a79 n80 n81, .int .i64 i82])) ∧
 False))
 ((∃ (x83 : FuncId),
 ∃ (t84 : List Value),
 rdVar Try.prog
 (M ++ [AObj.cells [.string p00, p01, .bool p02, p03] 4 Mode.live] ++
 [AObj.cells [.int .i64 p10, .string p11, .string p12, .slice p13 p13n p13c, .int .i64 p14] 5 Mode.live])
 36 (List.length M) 3 =
 some (Value.func (Fn.func x83) (Array.mk []) (Array.mk t84)) ∧
 ∃ (i85 : Int),
 ∃ (s86 : ByteArray),
 ∃ (s87 : ByteArray),
 ∃ (a88 : Option Addr),
 ∃ (n89 : Nat),
 ∃ (n90 : Nat),
 ∃ (i91 : Int),
 rdVar Try.prog
 (M ++ [AObj.cells [.string p00, p01, .bool p02, p03] 4 Mode.live] ++
 [AObj.cells [.int .i64 p10, .string p11, .string p12, .slice p13 p13n p13c, .int .i64 p14] 5
 Mode.live])
 24 (List.length (M ++ [AObj.cells [.string p00, p01, .bool p02, p03] 4 Mode.live])) 0 =
 some
 (.agg
 (Array.mk [.int .i64 i85, .string s86, .string s87, .slice a88 n89 n90, .int .i64 i91])) ∧
 cnd (walksIn Try.prog x83)
 (∃ (a92 : Option Addr),
 ∃ (n93 : Nat),
 ∃ (n94 : Nat),
 ∃ (b95 : Bool),
 ∃ (M96 : Mem),
 Ret Try.prog x83
 (.agg
 (Array.mk
 [.int .i64 i85, .string s86, .string s87, .slice a88 n89 n90,
 .int .i64 i91]) ::
 t84)
 (M ++ [AObj.cells [.string p00, p01, .bool p02, p03] 4 Mode.live] ++
 [AObj.cells
 [.int .i64 p10, .string p11, .string p12, .slice p13 p13n p13c,
 .int .i64 p14]
 5 Mode.live])
 (.tuple (Array.mk [.slice a92 n93 n94, .bool b95])) M96 ∧
 cnd b95
 (cnd (eqS s0 (ByteArray.mk #[]))
 (cnd (eqS s57 (ByteArray.mk #[])) (K (.tuple (Array.mk [.slice a92 n93 n94, .bool true])) M96)
 (K (.tuple (Array.mk [.slice none 0 0, .bool false])) M96))
 (K (.tuple (Array.mk [.slice none 0 0, .bool false])) M96))
 (K (.tuple (Array.mk [.slice none 0 0, .bool false])) M96))
 False) ∨
 rdVar Try.prog
 (M ++ [AObj.cells [.string p00, p01, .bool p02, p03] 4 Mode.live] ++
 [AObj.cells [.int .i64 p10, .string p11, .string p12, .slice p13 p13n p13c, .int .i64 p14] 5 Mode.live])
 36 (List.length M) 3 =
 some .nilFunc ∧
 ∃ (i97 : Int),
 ∃ (s98 : ByteArray),
 ∃ (s99 : ByteArray),
 ∃ (a100 : Option Addr),
 ∃ (n101 : Nat),
 ∃ (n102 : Nat),
 ∃ (i103 : Int),
 rdVar Try.prog
 (M ++ [AObj.cells [.string p00, p01, .bool p02, p03] 4 Mode.live] ++
 [AObj.cells [.int .i64 p10, .string p11, .string p12, .slice p13 p13n p13c, .int .i64 p14] 5
 Mode.live])
 24 (List.length (M ++ [AObj.cells [.string p00, p01, .bool p02, p03] 4 Mode.live])) 0 =
 some
 (.agg
 (Array.mk [.int .i64 i97, .string s98, .string s99, .slice a100 n101 n102, .int .i64 i103])) ∧
 False))) ∨
 rdVar Try.prog
 (M ++ [AObj.cells [.string p00, p01, .bool p02, p03] 4 Mode.live] ++
 [AObj.cells [.int .i64 p10, .string p11, .string p12, .slice p13 p13n p13c, .int .i64 p14] 5 Mode.live])
 38 (List.length M) 1 =
 some .nilFunc ∧
 ∃ (b104 : Bool),
 binA Try.prog BinOp.neq 38 (Operand.tmp 14) (Operand.const .nilFunc) .nilFunc .nilFunc = some (.bool b104) ∧
 cnd b104
 ((∃ (x105 : FuncId),
 ∃ (t106 : List Value),
 rdVar Try.prog
 (M ++ [AObj.cells [.string p00, p01, .bool p02, p03] 4 Mode.live] ++
 [AObj.cells [.int .i64 p10, .string p11, .string p12, .slice p13 p13n p13c, .int .i64 p14] 5 Mode.live])
 38 (List.length M) 1 =
 some (Value.func (Fn.func x105) (Array.mk []) (Array.mk t106)) ∧
 ∃ (s107 : ByteArray),
 rdVar Try.prog
 (M ++ [AObj.cells [.string p00, p01, .bool p02, p03] 4 Mode.live] ++
 [AObj.cells [.int .i64 p10, .string p11, .string p12, .slice p13 p13n p13c, .int .i64 p14] 5 Mode.live])
 9 (List.length (M ++ [AObj.cells [.string p00, p01, .bool p02, p03] 4 Mode.live])) 1 =
 some (Value.string s107) ∧
 cnd (walksIn Try.prog x105)
 (∃ (b108 : Bool),
 ∃ (M109 : Mem),
 Ret Try.prog x105 (.string s107 :: t106)
 (M ++ [AObj.cells [.string p00, p01, .bool p02, p03] 4 Mode.live] ++
 [AObj.cells [.int .i64 p10, .string p11, .string p12, .slice p13 p13n p13c, .int .i64 p14] 5 Mode.live])
 (.bool b108) M109 ∧
 ∃ (s110 : ByteArray),
 rdVar Try.prog M109 9 (List.length (M ++ [AObj.cells [.string p00, p01, .bool p02, p03] 4 Mode.live])) 2 = some (.string s110) ∧
 ∃ (b111 : Bool),
 rdVar Try.prog M109 4 (List.length M) 2 = some (.bool b111) ∧
 cnd b111
 (∃ (s112 : ByteArray),
 rdVar Try.prog M109 9 (List.length (M ++ [AObj.cells [.string p00, p01, .bool p02, p03] 4 Mode.live])) 2 = some (.string s112) ∧
 ∃ (b113 : Bool),
 ∃ (M114 : Mem),
 Ret Try.prog 16 [.string s112] M109 (.bool b113) M114 ∧
 ((∃ (x115 : FuncId),
 ∃ (t116 : List Value),
 rdVar Try.prog M114 36 (List.length M) 3 = some (.func (Fn.func x115) (Array.mk []) (Array.mk t116)) ∧
 ∃ (i117 : Int),
 ∃ (s118 : ByteArray),
 ∃ (s119 : ByteArray),
 ∃ (a120 : Option Addr),
 ∃ (n121 : Nat),
 ∃ (n122 : Nat),
 ∃ (i123 : Int),
 rdVar Try.prog M114 24 (List.length (M ++ [AObj.cells [.string p00, p01, .bool p02, p03] 4 Mode.live]))
 0 =
 some
 (.agg
 (Array.mk
 [.int .i64 i117, .string s118, .string s119, .slice a120 n121 n122,
 .int .i64 i123])) ∧
 cnd (walksIn Try.prog x115)
 (∃ (a124 : Option Addr),
 ∃ (n125 : Nat),
 ∃ (n126 : Nat),
 ∃ (b127 : Bool),
 ∃ (M128 : Mem),
 Ret Try.prog x115
 (.agg
 (Array.mk
 [.int .i64 i117, .string s118, .string s119,
 .slice a120 n121 n122, .int .i64 i123]) ::
 t116)
 M114 (.tuple (Array.mk [.slice a124 n125 n126, .bool b127])) M128 ∧
 cnd b127
 (cnd b108
 (cnd b113 (K (.tuple (Array.mk [.slice a124 n125 n126, .bool true])) M128)
 (K (.tuple (Array.mk [.slice none 0 0, .bool false])) M128))
 (K (.tuple (Array.mk [.slice none 0 0, .bool false])) M128))
 (K (.tuple (Array.mk [.slice none 0 0, .bool false])) M128))
 False) ∨
 rdVar Try.prog M114 36 (List.length M) 3 = some .nilFunc ∧
 ∃ (i129 : Int),
 ∃ (s130 : ByteArray),
 ∃ (s131 : ByteArray),
 ∃ (a132 : Option Addr),
 ∃ (n133 : Nat),
 ∃ (n134 : Nat),
 ∃ (i135 : Int),
 rdVar Try.prog M114 24 (List.length (M ++ [AObj.cells [.string p00, p01, .bool p02, p03] 4 Mode.live])) 0 =
 some
 (.agg
 (Array.mk
 [.int .i64 i129, .string s130, .string s131, .slice a132 n133 n134,
 .int .i64 i135])) ∧
 False))
 ((∃ (x136 : FuncId),
 ∃ (t137 : List Value),
 rdVar Try.prog M109 36 (List.length M) 3 = some (.func (Fn.func x136) (Array.mk []) (Array.mk t137)) ∧
 ∃ (i138 : Int),
 ∃ (s139 : ByteArray),
 ∃ (s140 : ByteArray),
 ∃ (a141 : Option Addr),
 ∃ (n142 : Nat),
 ∃ (n143 : Nat),
 ∃ (i144 : Int),
 rdVar Try.prog M109 24 (List.length (M ++ [AObj.cells [.string p00, p01, .bool p02, p03] 4 Mode.live])) 0 =
 some
 (.agg
 (Array.mk
 [.int .i64 i138, .string s139, .string s140, .slice a141 n142 n143,
 .int .i64 i144])) ∧
 cnd (walksIn Try.prog x136)
 (∃ (a145 : Option Addr),
 ∃ (n146 : Nat),
 ∃ (n147 : Nat),
 ∃ (b148 : Bool),
 ∃ (M149 : Mem),
 Ret Try.prog x136
 (.agg
 (Array.mk
 [.int .i64 i138, .string s139, .string s140, .slice a141 n142 n143,
 .int .i64 i144]) ::
 t137)
 M109 (.tuple (Array.mk [.slice a145 n146 n147, .bool b148])) M149 ∧
 cnd b148
 (cnd b108
 (cnd (eqS s110 (ByteArray.mk #[]))
 (K (.tuple (Array.mk [.slice a145 n146 n147, .bool true])) M149)
 (K (.tuple (Array.mk [.slice none 0 0, .bool false])) M149))
 (K (.tuple (Array.mk [.slice none 0 0, .bool false])) M149))
 (K (.tuple (Array.mk [.slice none 0 0, .bool false])) M149))
 False) ∨
 rdVar Try.prog M109 36 (List.length M) 3 = some .nilFunc ∧
 ∃ (i150 : Int),
 ∃ (s151 : ByteArray),
 ∃ (s152 : ByteArray),
 ∃ (a153 : Option Addr),
 ∃ (n154 : Nat),
 ∃ (n155 : Nat),
 ∃ (i156 : Int),
 rdVar Try.prog M109 24 (List.length (M ++ [AObj.cells [.string p00, p01, .bool p02, p03] 4 Mode.live])) 0 =
 some
 (.agg
 (Array.mk
 [.int .i64 i150, .string s151, .string s152, .slice a153 n154 n155,
 .int .i64 i156])) ∧
 False))
 False) ∨
 rdVar Try.prog
 (M ++ [AObj.cells [.string p00, p01, .bool p02, p03] 4 Mode.live] ++
 [AObj.cells [.int .i64 p10, .string p11, .string p12, .slice p13 p13n p13c, .int .i64 p14] 5 Mode.live])
 38 (List.length M) 1 =
 some .nilFunc ∧
 ∃ (s157 : ByteArray),
 rdVar Try.prog
 (M ++ [AObj.cells [.string p00, p01, .bool p02, p03] 4 Mode.live] ++
 [AObj.cells [.int .i64 p10, .string p11, .string p12, .slice p13 p13n p13c, .int .i64 p14] 5 Mode.live])
 9 (List.length (M ++ [AObj.cells [.string p00, p01, .bool p02, p03] 4 Mode.live])) 1 =
 some (Value.string s157) ∧
 False)
 (∃ (s158 : ByteArray),
 rdVar Try.prog
 (M ++ [AObj.cells [.string p00, p01, .bool p02, p03] 4 Mode.live] ++
 [AObj.cells [.int .i64 p10, .string p11, .string p12, .slice p13 p13n p13c, .int .i64 p14] 5 Mode.live])
 9 (List.length (M ++ [AObj.cells [.string p00, p01, .bool p02, p03] 4 Mode.live])) 2 =
 some (Value.string s158) ∧
 ∃ (b159 : Bool),
 rdVar Try.prog
 (M ++ [AObj.cells [.string p00, p01, .bool p02, p03] 4 Mode.live] ++
 [AObj.cells [.int .i64 p10, .string p11, .string p12, .slice p13 p13n p13c, .int .i64 p14] 5 Mode.live])
 4 (List.length M) 2 =
 some (Value.bool b159) ∧
 cnd b159
 (∃ (s160 : ByteArray),
 rdVar Try.prog
 (M ++ [AObj.cells [.string p00, p01, .bool p02, p03] 4 Mode.live] ++
 [AObj.cells [.int .i64 p10, .string p11, .string p12, .slice p13 p13n p13c, .int .i64 p14] 5 Mode.live])
 9 (List.length (M ++ [AObj.cells [.string p00, p01, .bool p02, p03] 4 Mode.live])) 2 =
 some (Value.string s160) ∧
 ∃ (b161 : Bool),
 ∃ (M162 : Mem),
 Ret Try.prog 16 [.string s160]
 (M ++ [AObj.cells [.string p00, p01, .bool p02, p03] 4 Mode.live] ++
 [AObj.cells [.int .i64 p10, .string p11, .string p12, .slice p13 p13n p13c, .int .i64 p14] 5 Mode.live])
 (.bool b161) M162 ∧
 ((∃ (x163 : FuncId),
 ∃ (t164 : List Value),
 rdVar Try.prog M162 36 (List.length M) 3 = some (.func (Fn.func x163) (Array.mk []) (Array.mk t164)) ∧
 ∃ (i165 : Int),
 ∃ (s166 : ByteArray),
 ∃ (s167 : ByteArray),
 ∃ (a168 : Option Addr),
 ∃ (n169 : Nat),
 ∃ (n170 : Nat),
 ∃ (i171 : Int),
 rdVar Try.prog M162 24 (List.length (M ++ [AObj.cells [.string p00, p01, .bool p02, p03] 4 Mode.live])) 0 =
 some
 (.agg
 (Array.mk
 [.int .i64 i165, .string s166, .string s167, .slice a168 n169 n170,
 .int .i64 i171])) ∧
 cnd (walksIn Try.prog x163)
 (∃ (a172 : Option Addr),
 ∃ (n173 : Nat),
 ∃ (n174 : Nat),
 ∃ (b175 : Bool),
 ∃ (M176 : Mem),
 Ret Try.prog x163
 (.agg
 (Array.mk
 [.int .i64 i165, .string s166, .string s167, .slice a168 n169 n170,
 .int .i64 i171]) ::
 t164)
 M162 (.tuple (Array.mk [.slice a172 n173 n174, .bool b175])) M176 ∧
 cnd b175
 (cnd (eqS s0 (ByteArray.mk #[]))
 (cnd b161 (K (.tuple (Array.mk [.slice a172 n173 n174, .bool true])) M176)
 (K (.tuple (Array.mk [.slice none 0 0, .bool false])) M176))
 (K (.tuple (Array.mk [.slice none 0 0, .bool false])) M176))
 (K (.tuple (Array.mk [.slice none 0 0, .bool false])) M176))
 False) ∨
 rdVar Try.prog M162 36 (List.length M) 3 = some .nilFunc ∧
 ∃ (i177 : Int),
 ∃ (s178 : ByteArray),
 ∃ (s179 : ByteArray),
 ∃ (a180 : Option Addr),
 ∃ (n181 : Nat),
 ∃ (n182 : Nat),
 ∃ (i183 : Int),
 rdVar Try.prog M162 24 (List.length (M ++ [AObj.cells [.string p00, p01, .bool p02, p03] 4 Mode.live])) 0 =
 some
 (.agg
 (Array.mk
 [.int .i64 i177, .string s178, .string s179, .slice a180 n181 n182, .int .i64 i183])) ∧
 False))
 ((∃ (x184 : FuncId),
 ∃ (t185 : List Value),
 rdVar Try.prog
 (M ++ [AObj.cells [.string p00, p01, .bool p02, p03] 4 Mode.live] ++
 [AObj.cells [.int .i64 p10, .string p11, .string p12, .slice p13 p13n p13c, .int .i64 p14] 5 Mode.live])
 36 (List.length M) 3 =
 some (Value.func (Fn.func x184) (Array.mk []) (Array.mk t185)) ∧
 ∃ (i186 : Int),
 ∃ (s187 : ByteArray),
 ∃ (s188 : ByteArray),
 ∃ (a189 : Option Addr),
 ∃ (n190 : Nat),
 ∃ (n191 : Nat),
 ∃ (i192 : Int),
 rdVar Try.prog
 (M ++ [AObj.cells [.string p00, p01, .bool p02, p03] 4 Mode.live] ++
 [AObj.cells [.int .i64 p10, .string p11, .string p12, .slice p13 p13n p13c, .int .i64 p14] 5
 Mode.live])
 24 (List.length (M ++ [AObj.cells [.string p00, p01, .bool p02, p03] 4 Mode.live])) 0 =
 some
 (.agg
 (Array.mk [.int .i64 i186, .string s187, .string s188, .slice a189 n190 n191, .int .i64 i192])) ∧
 cnd (walksIn Try.prog x184)
 (∃ (a193 : Option Addr),
 ∃ (n194 : Nat),
 ∃ (n195 : Nat),
 ∃ (b196 : Bool),
 ∃ (M197 : Mem),
 Ret Try.prog x184
 (.agg
 (Array.mk
 [.int .i64 i186, .string s187, .string s188, .slice a189 n190 n191,
 .int .i64 i192]) ::
 t185)
 (M ++ [AObj.cells [.string p00, p01, .bool p02, p03] 4 Mode.live] ++
 [AObj.cells
 [.int .i64 p10, .string p11, .string p12, .slice p13 p13n p13c, .int .i64 p14] 5
 Mode.live])
 (.tuple (Array.mk [.slice a193 n194 n195, .bool b196])) M197 ∧
 cnd b196
 (cnd (eqS s0 (ByteArray.mk #[]))
 (cnd (eqS s158 (ByteArray.mk #[])) (K (.tuple (Array.mk [.slice a193 n194 n195, .bool true])) M197)
 (K (.tuple (Array.mk [.slice none 0 0, .bool false])) M197))
 (K (.tuple (Array.mk [.slice none 0 0, .bool false])) M197))
 (K (.tuple (Array.mk [.slice none 0 0, .bool false])) M197))
 False) ∨
 rdVar Try.prog
 (M ++ [AObj.cells [.string p00, p01, .bool p02, p03] 4 Mode.live] ++
 [AObj.cells [.int .i64 p10, .string p11, .string p12, .slice p13 p13n p13c, .int .i64 p14] 5 Mode.live])
 36 (List.length M) 3 =
 some .nilFunc ∧
 ∃ (i198 : Int),
 ∃ (s199 : ByteArray),
 ∃ (s200 : ByteArray),
 ∃ (a201 : Option Addr),
 ∃ (n202 : Nat),
 ∃ (n203 : Nat),
 ∃ (i204 : Int),
 rdVar Try.prog
 (M ++ [AObj.cells [.string p00, p01, .bool p02, p03] 4 Mode.live] ++
 [AObj.cells [.int .i64 p10, .string p11, .string p12, .slice p13 p13n p13c, .int .i64 p14] 5
 Mode.live])
 24 (List.length (M ++ [AObj.cells [.string p00, p01, .bool p02, p03] 4 Mode.live])) 0 =
 some
 (.agg
 (Array.mk [.int .i64 i198, .string s199, .string s200, .slice a201 n202 n203, .int .i64 i204])) ∧
 False)))) :
 Held (wpRet Try.prog 34 true []
 [.agg (Array.mk [.string p00, p01, .bool p02, p03]),
 .agg (Array.mk [.int .i64 p10, .string p11, .string p12, .slice p13 p13n p13c, .int .i64 p14])]
 M K) := held_of (by kernel_rfl) h

end Go.Proofs.YtabkcbaknjenmaaAM

/-
  THE NODE LAWS: what is to be shown for functions, printed by a program: reference 6's kids
-/
set_option linter.unusedVariables false
namespace Go.Proofs.YtabkcbaknjenmaaAM
open Go Go.Proofs
set_option maxRecDepth 100000
set_option maxHeartbeats 4000000
theorem w35 {p00 : Int} {p01 p02 : ByteArray} {p03 : Option Addr} {p03n p03c : Nat} {p04 : Int} {M : Mem} {K : Value → Mem → Prop} (h : ∃ (a0 : Option Addr),
 ∃ (n1 : Nat),
 ∃ (n2 : Nat),
 rdVar Try.prog (M ++ [AObj.cells [.int .i64 p00, .string p01, .string p02, .slice p03 p03n p03c, .int .i64 p04] 5 Mode.live]) 22 (List.length M)
 3 =
 some (Value.slice a0 n1 n2) ∧
 ∃ (i3 : Int),
 rdVar Try.prog (M ++ [AObj.cells [.int .i64 p00, .string p01, .string p02, .slice p03 p03n p03c, .int .i64 p04] 5 Mode.live]) 3
 (List.length M) 0 =
 some (Value.int .i64 i3) ∧
 cnd (eqF i3 (Int.ofNat 10))
 (∃ (a4 : Option Addr),
 ∃ (n5 : Nat),
 ∃ (n6 : Nat),
 ∃ (M7 : Mem),
 Ret Try.prog 65 [.int .i64 (Int.ofNat 0), .int .i64 (Int.ofNat n1)]
 (M ++ [AObj.cells [.int .i64 p00, .string p01, .string p02, .slice p03 p03n p03c, .int .i64 p04] 5 Mode.live])
 (.slice a4 n5 n6) M7 ∧
 ∃ (i8 : Int),
 binA Try.prog BinOp.rem 3 (Operand.tmp 14) (Operand.const (.int .i64 (Int.ofNat 2))) (.int .i64 (Int.ofNat n1))
 (.int .i64 (Int.ofNat 2)) =
 some (Value.int .i64 i8) ∧
 cnd (eqF i8 (Int.ofNat 0)) (K (.tuple (Array.mk [.slice a4 n5 n6, .bool (leF (Int.ofNat n1) (Int.ofNat 128))])) M7)
 (K (.tuple (Array.mk [.slice a4 n5 n6, .bool false])) M7))
 (cnd (eqF i3 (Int.ofNat 17))
 (∃ (a9 : Option Addr),
 ∃ (n10 : Nat),
 ∃ (n11 : Nat),
 ∃ (M12 : Mem),
 Ret Try.prog 65 [.int .i64 (Int.ofNat 2), .int .i64 (Int.ofNat n1)]
 (M ++ [AObj.cells [.int .i64 p00, .string p01, .string p02, .slice p03 p03n p03c, .int .i64 p04] 5 Mode.live])
 (.slice a9 n10 n11) M12 ∧
 cnd (leF (Int.ofNat 2) (Int.ofNat n1)) (K (.tuple (Array.mk [.slice a9 n10 n11, .bool (leF (Int.ofNat n1) (Int.ofNat 64))])) M12)
 (K (.tuple (Array.mk [.slice a9 n10 n11, .bool false])) M12))
 (cnd (eqF i3 (Int.ofNat 18))
 (∃ (a13 : Option Addr),
 ∃ (n14 : Nat),
 ∃ (n15 : Nat),
 ∃ (M16 : Mem),
 Ret Try.prog 65 [.int .i64 (Int.ofNat 2), .int .i64 (Int.ofNat n1)]
 (M ++ [AObj.cells [.int .i64 p00, .string p01, .string p02, .slice p03 p03n p03c, .int .i64 p04] 5 Mode.live])
 (.slice a13 n14 n15) M16 ∧
 cnd (leF (Int.ofNat 2) (Int.ofNat n1)) (K (.tuple (Array.mk [.slice a13 n14 n15, .bool (leF (Int.ofNat n1) (Int.ofNat 64))])) M16)
 (K (.tuple (Array.mk [.slice a13 n14 n15, .bool false])) M16))
 (cnd (eqF i3 (Int.ofNat 27))
 (∃ (a17 : Option Addr),
 ∃ (n18 : Nat),
 ∃ (n19 : Nat),
 ∃ (M20 : Mem),
 Ret Try.prog 65 [.int .i64 (Int.ofNat 3), .int .i64 (Int.ofNat n1)]
 (M ++ [AObj.cells [.int .i64 p00, .string p01, .string p02, .slice p03 p03n p03c, .int .i64 p04] 5 Mode.live])
 (.slice a17 n18 n19) M20 ∧
 K (.tuple (Array.mk [.slice a17 n18 n19, .bool (leF (Int.ofNat n1) (Int.ofNat 64))])) M20)
 (cnd (eqF i3 (Int.ofNat 28))
 (∃ (a21 : Option Addr),
 ∃ (n22 : Nat),
 ∃ (n23 : Nat),
 ∃ (M24 : Mem),
 Ret Try.prog 65 [.int .i64 (Int.ofNat 3), .int .i64 (Int.ofNat n1)]
 (M ++ [AObj.cells [.int .i64 p00, .string p01, .string p02, .slice p03 p03n p03c, .int .i64 p04] 5 Mode.live])
 (.slice a21 n22 n23) M24 ∧
 K (.tuple (Array.mk [.slice a21 n22 n23, .bool (leF (Int.ofNat n1) (Int.ofNat 64))])) M24)
 (cnd (eqF i3 (Int.ofNat 12))
 (∃ (s25 : ByteArray),
 rdVar Try.prog (M ++ [AObj.cells [.int .i64 p00, .string p01, .string p02, .slice p03 p03n p03c, .int .i64 p04] 5 Mode.live])
 9 (List.length M) 1 =
 some (Value.string s25) ∧
 ∃ (i26 : Int),
 ∃ (M27 : Mem),
 Ret Try.prog 66 [.string s25]
 (M ++ [AObj.cells [.int .i64 p00, .string p01, .string p02, .slice p03 p03n p03c, .int .i64 p04] 5 Mode.live])
 (.int .i64 i26) M27 ∧
 ∃ (a28 : Option Addr),
 ∃ (n29 : Nat),
 ∃ (n30 : Nat),
 ∃ (M31 : Mem),
 Ret Try.prog 65 [.int .i64 (Int.ofNat 0), .int .i64 i26] M27 (.slice a28 n29 n30) M31 ∧
 K (.tuple (Array.mk [.slice a28 n29 n30, .bool true])) M31)
 (cnd (eqF i3 (Int.ofNat 6))
 (K
 (.tuple
 (Array.mk
 [.slice
 (some
 (.mk
 (List.length
 (M ++
 [AObj.cells [.int .i64 p00, .string p01, .string p02, .slice p03 p03n p03c, .int .i64 p04] 5 Mode.live]))
 0 none))
 3 3,
 .bool true]))
 (M ++ [AObj.cells [.int .i64 p00, .string p01, .string p02, .slice p03 p03n p03c, .int .i64 p04] 5 Mode.live] ++
 [AObj.cells [.int .i64 (Int.ofNat 2), .int .i64 (Int.ofNat 2), .int .i64 (Int.ofNat 0)] 1 Mode.live]))
 (cnd (eqF i3 (Int.ofNat 13))
 (K
 (.tuple
 (Array.mk
 [.slice
 (some
 (.mk
 (List.length
 (M ++
 [AObj.cells [.int .i64 p00, .string p01, .string p02, .slice p03 p03n p03c, .int .i64 p04] 5 Mode.live]))
 0 none))
 3 3,
 .bool true]))
 (M ++ [AObj.cells [.int .i64 p00, .string p01, .string p02, .slice p03 p03n p03c, .int .i64 p04] 5 Mode.live] ++
 [AObj.cells [.int .i64 (Int.ofNat 2), .int .i64 (Int.ofNat 2), .int .i64 (Int.ofNat 0)] 1 Mode.live]))
 (cnd (eqF i3 (Int.ofNat 7))
 (∃ (a32 : Option Addr),
 ∃ (n33 : Nat),
 ∃ (n34 : Nat),
 ∃ (M35 : Mem),
 Ret Try.prog 65 [.int .i64 (Int.ofNat 0), .int .i64 (Int.ofNat 2)]
 (M ++
 [AObj.cells [.int .i64 p00, .string p01, .string p02, .slice p03 p03n p03c, .int .i64 p04] 5 Mode.live])
 (.slice a32 n33 n34) M35 ∧
 K (.tuple (Array.mk [.slice a32 n33 n34, .bool true])) M35)
 (cnd (eqF i3 (Int.ofNat 11))
 (∃ (a36 : Option Addr),
 ∃ (n37 : Nat),
 ∃ (n38 : Nat),
 ∃ (M39 : Mem),
 Ret Try.prog 65 [.int .i64 (Int.ofNat 0), .int .i64 (Int.ofNat 2)]
 (M ++
 [AObj.cells [.int .i64 p00, .string p01, .string p02, .slice p03 p03n p03c, .int .i64 p04] 5 Mode.live])
 (.slice a36 n37 n38) M39 ∧
 K (.tuple (Array.mk [.slice a36 n37 n38, .bool true])) M39)
 (cnd (eqF i3 (Int.ofNat 8))
 (∃ (a40 : Option Addr),
 ∃ (n41 : Nat),
 ∃ (n42 : Nat),
 ∃ (M43 : Mem),
 Ret Try.prog 65 [.int .i64 (Int.ofNat 0), .int .i64 (Int.ofNat 3)]
 (M ++
 [AObj.cells [.int .i64 p00, .string p01, .string p02, .slice p03 p03n p03c, .int .i64 p04] 5
 Mode.live])
 (.slice a40 n41 n42) M43 ∧
 K (.tuple (Array.mk [.slice a40 n41 n42, .bool true])) M43)
 (cnd (eqF i3 (Int.ofNat 9))
 (∃ (a44 : Option Addr),
 ∃ (n45 : Nat),
 ∃ (n46 : Nat),
 ∃ (M47 : Mem),
 Ret Try.prog 65 [.int .i64 (Int.ofNat 0), .int .i64 (Int.ofNat 1)]
 (M ++
 [AObj.cells [.int .i64 p00, .string p01, .string p02, .slice p03 p03n p03c, .int .i64 p04] 5
 Mode.live])
 (.slice a44 n45 n46) M47 ∧
 K (.tuple (Array.mk [.slice a44 n45 n46, .bool true])) M47)
 (cnd (eqF i3 (Int.ofNat 15))
 (∃ (a48 : Option Addr),
 ∃ (n49 : Nat),
 ∃ (n50 : Nat),
 ∃ (M51 : Mem),
 Ret Try.prog 65 [.int .i64 (Int.ofNat 3), .int .i64 (Int.ofNat 1)]
 (M ++
 [AObj.cells [.int .i64 p00, .string p01, .string p02, .slice p03 p03n p03c, .int .i64 p04] 5
 Mode.live])
 (.slice a48 n49 n50) M51 ∧
 K (.tuple (Array.mk [.slice a48 n49 n50, .bool true])) M51)
 (cnd (eqF i3 (Int.ofNat 29))
 (∃ (a52 : Option Addr),
 ∃ (n53 : Nat),
 ∃ (n54 : Nat),
 ∃ (M55 : Mem),
 Ret Try.prog 65 [.int .i64 (Int.ofNat 3), .int .i64 (Int.ofNat 1)]
 (M ++
 [AObj.cells [.int .i64 p00, .string p01, .string p02, .slice p03 p03n p03c, .int .i64 p04] 5
 Mode.live])
 (.slice a52 n53 n54) M55 ∧
 K (.tuple (Array.mk [.slice a52 n53 n54, .bool true])) M55)
 (cnd (eqF i3 (Int.ofNat 16))
 (∃ (a56 : Option Addr),
 ∃ (n57 : Nat),
 ∃ (n58 : Nat),
 ∃ (M59 : Mem),
 Ret Try.prog 65 [.int .i64 (Int.ofNat 2), .int .i64 (Int.ofNat 2)]
 (M ++
 [AObj.cells [.int .i64 p00, .string p01, .string p02, .slice p03 p03n p03c, .int .i64 p04] 5
 Mode.live])
 (.slice a56 n57 n58) M59 ∧
 K (.tuple (Array.mk [.slice a56 n57 n58, .bool true])) M59)
 (cnd (eqF i3 (Int.ofNat 21))
 (∃ (a60 : Option Addr),
 ∃ (n61 : Nat),
 ∃ (n62 : Nat),
 ∃ (M63 : Mem),
 Ret Try.prog 65 [.int .i64 (Int.ofNat 4), .int .i64 (Int.ofNat 1)]
 (M ++
 [AObj.cells [.int .i64 p00, .string p01, .string p02, .slice p03 p03n p03c, .int .i64 p04] 5
 Mode.live])
 (.slice a60 n61 n62) M63 ∧
 K (.tuple (Array.mk [.slice a60 n61 n62, .bool true])) M63)
 (cnd (eqF i3 (Int.ofNat 22))
 (∃ (a64 : Option Addr),
 ∃ (n65 : Nat),
 ∃ (n66 : Nat),
 ∃ (M67 : Mem),
 Ret Try.prog 65 [.int .i64 (Int.ofNat 5), .int .i64 (Int.ofNat 2)]
 (M ++
 [AObj.cells [.int .i64 p00, .string p01, .string p02, .slice p03 p03n p03c, .int .i64 p04]
 5 Mode.live])
 (.slice a64 n65 n66) M67 ∧
 K (.tuple (Array.mk [.slice a64 n65 n66, .bool true])) M67)
 (cnd (eqF i3 (Int.ofNat 23))
 (∃ (a68 : Option Addr),
 ∃ (n69 : Nat),
 ∃ (n70 : Nat),
 ∃ (M71 : Mem),
 Ret Try.prog 65 [.int .i64 (Int.ofNat 5), .int .i64 (Int.ofNat 2)]
 (M ++
 [AObj.cells
 [.int .i64 p00, .string p01, .string p02, .slice p03 p03n p03c, .int .i64 p04] 5
 Mode.live])
 (.slice a68 n69 n70) M71 ∧
 K (.tuple (Array.mk [.slice a68 n69 n70, .bool true])) M71)
 (cnd (eqF i3 (Int.ofNat 24))
 (∃ (a72 : Option Addr),
 ∃ (n73 : Nat),
 ∃ (n74 : Nat),
 ∃ (M75 : Mem),
 Ret Try.prog 65 [.int .i64 (Int.ofNat 5), .int .i64 (Int.ofNat 2)]
 (M ++
 [AObj.cells
 [.int .i64 p00, .string p01, .string p02, .slice p03 p03n p03c, .int .i64 p04] 5
 Mode.live])
 (.slice a72 n73 n74) M75 ∧
 K (.tuple (Array.mk [.slice a72 n73 n74, .bool true])) M75)
 (cnd (eqF i3 (Int.ofNat 33))
 (∃ (a76 : Option Addr),
 ∃ (n77 : Nat),
 ∃ (n78 : Nat),
 ∃ (M79 : Mem),
 Ret Try.prog 65 [.int .i64 (Int.ofNat 5), .int .i64 (Int.ofNat 2)]
 (M ++
 [AObj.cells
 [.int .i64 p00, .string p01, .string p02, .slice p03 p03n p03c, .int .i64 p04] 5
 Mode.live])
 (.slice a76 n77 n78) M79 ∧
 K (.tuple (Array.mk [.slice a76 n77 n78, .bool true])) M79)
 (cnd (eqF i3 (Int.ofNat 34))
 (∃ (a80 : Option Addr),
 ∃ (n81 : Nat),
 ∃ (n82 : Nat),
 ∃ (M83 : Mem),
 Ret Try.prog 65 [.int .i64 (Int.ofNat 5), .int .i64 (Int.ofNat 2)]
 (M ++
 [AObj.cells
 [.int .i64 p00, .string p01, .string p02, .slice p03 p03n p03c, .int .i64 p04]
 5 Mode.live])
 (.slice a80 n81 n82) M83 ∧
 K (.tuple (Array.mk [.slice a80 n81 n82, .bool true])) M83)
 (cnd (eqF i3 (Int.ofNat 25))
 (∃ (a84 : Option Addr),
 ∃ (n85 : Nat),
 ∃ (n86 : Nat),
 ∃ (M87 : Mem),
 Ret Try.prog 65 [.int .i64 (Int.ofNat 4), .int .i64 (Int.ofNat 2)]
 (M ++
 [AObj.cells
 [.int .i64 p00, .string p01, .string p02, .slice p03 p03n p03c,
 .int .i64 p04]
 5 Mode.live])
 (.slice a84 n85 n86) M87 ∧
 K (.tuple (Array.mk [.slice a84 n85 n86, .bool true])) M87)
 (cnd (eqF i3 (Int.ofNat 26))
 (∃ (a88 : Option Addr),
 ∃ (n89 : Nat),
 ∃ (n90 : Nat),
 ∃ (M91 : Mem),
 Ret Try.prog 65 [.int .i64 (Int.ofNat 4), .int .i64 (Int.ofNat 2)]
 (M ++
 [AObj.cells
 [.int .i64 p00, .string p01, .string p02, .slice p03 p03n p03c,
 .int .i64 p04]
 5 Mode.live])
 (.slice a88 n89 n90) M91 ∧
 K (.tuple (Array.mk [.slice a88 n89 n90, .bool true])) M91)
 (cnd (eqF i3 (Int.ofNat 31))
 (∃ (a92 : Option Addr),
 ∃ (n93 : Nat),
 ∃ (n94 : Nat),
 ∃ (M95 : Mem),
 Ret Try.prog 65 [.int .i64 (Int.ofNat 4), .int .i64 (Int.ofNat 2)]
 (M ++
 [AObj.cells
 [.int .i64 p00, .string p01, .string p02, .slice p03 p03n p03c,
 .int .i64 p04]
 5 Mode.live])
 (.slice a92 n93 n94) M95 ∧
 K (.tuple (Array.mk [.slice a92 n93 n94, .bool true])) M95)
 (cnd (eqF i3 (Int.ofNat 32))
 (∃ (a96 : Option Addr),
 ∃ (n97 : Nat),
 ∃ (n98 : Nat),
 ∃ (M99 : Mem),
 Ret Try.prog 65 [.int .i64 (Int.ofNat 4), .int .i64 (Int.ofNat 3)]
 (M ++
 [AObj.cells
 [.int .i64 p00, .string p01, .string p02, .slice p03 p03n p03c,
 .int .i64 p04]
 5 Mode.live])
 (.slice a96 n97 n98) M99 ∧
 K (.tuple (Array.mk [.slice a96 n97 n98, .bool true])) M99)
 (cnd (eqF i3 (Int.ofNat 35))
 (∃ (a100 : Option Addr),
 ∃ (n101 : Nat),
 ∃ (n102 : Nat),
 ∃ (M103 : Mem),
 Ret Try.prog 65 [.int .i64 (Int.ofNat 5), .int .i64 (Int.ofNat 1)]
 (M ++
 [AObj.cells
 [.int .i64 p00, .string p01, .string p02, .slice p03 p03n p03c,
 .int .i64 p04]
 5 Mode.live])
 (.slice a100 n101 n102) M103 ∧
 K (.tuple (Array.mk [.slice a100 n101 n102, .bool true])) M103)
 (cnd (eqF i3 (Int.ofNat 30))
 (K
 (.tuple
 (Array.mk
 [.slice
 (some
 (.mk
 (List.length
 (M ++
 [AObj.cells
 [.int .i64 p00, .string p01, .string p02, .slice p03 p03n p03c,
 .int .i64 p04]
 5 Mode.live]))
 0 none))
 2 2,
 .bool true]))
 (M ++
 [AObj.cells
 [.int .i64 p00, .string p01, .string p02, .slice p03 p03n p03c,
 .int .i64 p04]
 5 Mode.live] ++
 [AObj.cells [.int .i64 (Int.ofNat 4), .int .i64 (Int.ofNat 2)] 1 Mode.live]))
 (K (.tuple (Array.mk [.slice none 0 0, .bool true]))
 (M ++
 [AObj.cells
 [.int .i64 p00, .string p01, .string p02, .slice p03 p03n p03c,
 .int .i64 p04]
 5 Mode.live]))))))))))))))))))))))))))))) :
 Held (wpRet Try.prog 35 true [] [.agg (Array.mk [.int .i64 p00, .string p01, .string p02, .slice p03 p03n p03c, .int .i64 p04])] M K) := held_of (by kernel_rfl) h
theorem w36 {p00 : Int} {p01 p02 : ByteArray} {p03 : Option Addr} {p03n p03c : Nat} {p04 : Int} {M : Mem} {K : Value → Mem → Prop} (h : ∃ (s0 : ByteArray),
 rdVar Try.prog (M ++ [AObj.cells [.int .i64 p00, .string p01, .string p02, .slice p03 p03n p03c, .int .i64 p04] 5 Mode.live]) 9 (List.length M) 1 =
 some (Value.string s0) ∧
 ∃ (s1 : ByteArray),
 rdVar Try.prog (M ++ [AObj.cells [.int .i64 p00, .string p01, .string p02, .slice p03 p03n p03c, .int .i64 p04] 5 Mode.live]) 9 (List.length M)
 2 =
 some (Value.string s1) ∧
 True ∧
 ∃ (i2 : Int),
 rdVar Try.prog (M ++ [AObj.cells [.int .i64 p00, .string p01, .string p02, .slice p03 p03n p03c, .int .i64 p04] 5 Mode.live]) 3
 (List.length M) 0 =
 some (Value.int .i64 i2) ∧
 cnd (eqF i2 (Int.ofNat 0))
 (∃ (s3 : ByteArray),
 rdVar Try.prog (M ++ [AObj.cells [.int .i64 p00, .string p01, .string p02, .slice p03 p03n p03c, .int .i64 p04] 5 Mode.live]) 9
 (List.length M) 1 =
 some (Value.string s3) ∧
 ∃ (b4 : Bool),
 ∃ (M5 : Mem),
 Ret Try.prog 67 [.string s3]
 (M ++ [AObj.cells [.int .i64 p00, .string p01, .string p02, .slice p03 p03n p03c, .int .i64 p04] 5 Mode.live])
 (.bool b4) M5 ∧
 cnd b4 (K (.bool (eqS s1 (ByteArray.mk #[]))) M5) (K (.bool false) M5))
 (cnd (eqF i2 (Int.ofNat 35))
 (∃ (s6 : ByteArray),
 rdVar Try.prog (M ++ [AObj.cells [.int .i64 p00, .string p01, .string p02, .slice p03 p03n p03c, .int .i64 p04] 5 Mode.live]) 9
 (List.length M) 1 =
 some (Value.string s6) ∧
 ∃ (b7 : Bool),
 ∃ (M8 : Mem),
 Ret Try.prog 67 [.string s6]
 (M ++ [AObj.cells [.int .i64 p00, .string p01, .string p02, .slice p03 p03n p03c, .int .i64 p04] 5 Mode.live])
 (.bool b7) M8 ∧
 cnd b7 (K (.bool (eqS s1 (ByteArray.mk #[]))) M8) (K (.bool false) M8))
 (cnd (eqF i2 (Int.ofNat 1))
 (K (.bool (eqS s1 (ByteArray.mk #[])))
 (M ++ [AObj.cells [.int .i64 p00, .string p01, .string p02, .slice p03 p03n p03c, .int .i64 p04] 5 Mode.live]))
 (cnd (eqF i2 (Int.ofNat 5))
 (∃ (s9 : ByteArray),
 rdVar Try.prog (M ++ [AObj.cells [.int .i64 p00, .string p01, .string p02, .slice p03 p03n p03c, .int .i64 p04] 5 Mode.live]) 9
 (List.length M) 1 =
 some (Value.string s9) ∧
 ∃ (b10 : Bool),
 ∃ (M11 : Mem),
 Ret Try.prog 17 [.string s9]
 (M ++ [AObj.cells [.int .i64 p00, .string p01, .string p02, .slice p03 p03n p03c, .int .i64 p04] 5 Mode.live])
 (.bool b10) M11 ∧
 cnd b10 (K (.bool (eqS s1 (ByteArray.mk #[]))) M11) (K (.bool false) M11))
 (cnd (eqF i2 (Int.ofNat 13))
 (∃ (s12 : ByteArray),
 rdVar Try.prog (M ++ [AObj.cells [.int .i64 p00, .string p01, .string p02, .slice p03 p03n p03c, .int .i64 p04] 5 Mode.live])
 9 (List.length M) 1 =
 some (Value.string s12) ∧
 ∃ (b13 : Bool),
 ∃ (M14 : Mem),
 Ret Try.prog 17 [.string s12]
 (M ++ [AObj.cells [.int .i64 p00, .string p01, .string p02, .slice p03 p03n p03c, .int .i64 p04] 5 Mode.live])
 (.bool b13) M14 ∧
 ∃ (s15 : ByteArray),
 rdVar Try.prog M14 9 (List.length M) 2 = some (.string s15) ∧
 ∃ (b16 : Bool),
 ∃ (M17 : Mem), Ret Try.prog 17 [.string s15] M14 (.bool b16) M17 ∧ cnd b13 (K (.bool b16) M17) (K (.bool false) M17))
 (cnd (eqF i2 (Int.ofNat 6))
 (∃ (s18 : ByteArray),
 rdVar Try.prog
 (M ++ [AObj.cells [.int .i64 p00, .string p01, .string p02, .slice p03 p03n p03c, .int .i64 p04] 5 Mode.live]) 9
 (List.length M) 2 =
 some (Value.string s18) ∧
 ∃ (b19 : Bool),
 ∃ (M20 : Mem),
 Ret Try.prog 17 [.string s18]
 (M ++ [AObj.cells [.int .i64 p00, .string p01, .string p02, .slice p03 p03n p03c, .int .i64 p04] 5 Mode.live])
 (.bool b19) M20 ∧
 cnd (eqS s0 (ByteArray.mk #[])) (K (.bool b19) M20) (K (.bool false) M20))
 (cnd (eqF i2 (Int.ofNat 7))
 (∃ (s21 : ByteArray),
 rdVar Try.prog
 (M ++ [AObj.cells [.int .i64 p00, .string p01, .string p02, .slice p03 p03n p03c, .int .i64 p04] 5 Mode.live]) 9
 (List.length M) 2 =
 some (Value.string s21) ∧
 ∃ (b22 : Bool),
 ∃ (M23 : Mem),
 Ret Try.prog 17 [.string s21]
 (M ++ [AObj.cells [.int .i64 p00, .string p01, .string p02, .slice p03 p03n p03c, .int .i64 p04] 5 Mode.live])
 (.bool b22) M23 ∧
 cnd (eqS s0 (ByteArray.mk #[])) (K (.bool b22) M23) (K (.bool false) M23))
 (cnd (eqF i2 (Int.ofNat 15))
 (∃ (s24 : ByteArray),
 rdVar Try.prog
 (M ++ [AObj.cells [.int .i64 p00, .string p01, .string p02, .slice p03 p03n p03c, .int .i64 p04] 5 Mode.live]) 9
 (List.length M) 2 =
 some (Value.string s24) ∧
 ∃ (b25 : Bool),
 ∃ (M26 : Mem),
 Ret Try.prog 17 [.string s24]
 (M ++
 [AObj.cells [.int .i64 p00, .string p01, .string p02, .slice p03 p03n p03c, .int .i64 p04] 5 Mode.live])
 (.bool b25) M26 ∧
 cnd (eqS s0 (ByteArray.mk #[])) (K (.bool b25) M26) (K (.bool false) M26))
 (cnd (eqF i2 (Int.ofNat 16))
 (∃ (s27 : ByteArray),
 rdVar Try.prog
 (M ++ [AObj.cells [.int .i64 p00, .string p01, .string p02, .slice p03 p03n p03c, .int .i64 p04] 5 Mode.live])
 9 (List.length M) 2 =
 some (Value.string s27) ∧
 ∃ (b28 : Bool),
 ∃ (M29 : Mem),
 Ret Try.prog 17 [.string s27]
 (M ++
 [AObj.cells [.int .i64 p00, .string p01, .string p02, .slice p03 p03n p03c, .int .i64 p04] 5 Mode.live])
 (.bool b28) M29 ∧
 cnd (eqS s0 (ByteArray.mk #[])) (K (.bool b28) M29) (K (.bool false) M29))
 (cnd (eqF i2 (Int.ofNat 12))
 (∃ (s30 : ByteArray),
 rdVar Try.prog
 (M ++
 [AObj.cells [.int .i64 p00, .string p01, .string p02, .slice p03 p03n p03c, .int .i64 p04] 5 Mode.live])
 9 (List.length M) 1 =
 some (Value.string s30) ∧
 ∃ (a31 : Option Addr),
 ∃ (n32 : Nat),
 ∃ (n33 : Nat),
 ∃ (M34 : Mem),
 Ret Try.prog 68 []
 (M ++
 [AObj.cells [.int .i64 p00, .string p01, .string p02, .slice p03 p03n p03c, .int .i64 p04] 5
 Mode.live])
 (.slice a31 n32 n33) M34 ∧
 ∃ (b35 : Bool),
 ∃ (M36 : Mem),
 Ret Try.prog 41 [.string s30, .slice a31 n32 n33] M34 (.bool b35) M36 ∧
 (((List.length M <
 List.length
 (M ++
 [AObj.cells
 [.int .i64 p00, .string p01, .string p02, .slice p03 p03n p03c, .int .i64 p04]
 5 Mode.live]) →
 M34[List.length M]? =
 (M ++
 [AObj.cells
 [.int .i64 p00, .string p01, .string p02, .slice p03 p03n p03c, .int .i64 p04]
 5 Mode.live])[List.length M]?) ∧
 True) ∧
 True) ∧
 cnd b35 (K (.bool (eqS s1 (ByteArray.mk #[]))) M36) (K (.bool false) M36))
 (cnd (eqF i2 (Int.ofNat 14))
 (∃ (s41 : ByteArray),
 rdVar Try.prog
 (M ++
 [AObj.cells [.int .i64 p00, .string p01, .string p02, .slice p03 p03n p03c, .int .i64 p04] 5 Mode.live])
 9 (List.length M) 1 =
 some (Value.string s41) ∧
 ∃ (a42 : Option Addr),
 ∃ (n43 : Nat),
 ∃ (n44 : Nat),
 ∃ (M45 : Mem),
 Ret Try.prog 69 []
 (M ++
 [AObj.cells [.int .i64 p00, .string p01, .string p02, .slice p03 p03n p03c, .int .i64 p04] 5
 Mode.live])
 (.slice a42 n43 n44) M45 ∧
 ∃ (b46 : Bool),
 ∃ (M47 : Mem),
 Ret Try.prog 41 [.string s41, .slice a42 n43 n44] M45 (.bool b46) M47 ∧
 (((List.length M <
 List.length
 (M ++
 [AObj.cells
 [.int .i64 p00, .string p01, .string p02, .slice p03 p03n p03c,
 .int .i64 p04]
 5 Mode.live]) →
 M45[List.length M]? =
 (M ++
 [AObj.cells
 [.int .i64 p00, .string p01, .string p02, .slice p03 p03n p03c,
 .int .i64 p04]
 5 Mode.live])[List.length M]?) ∧
 True) ∧
 True) ∧
 cnd b46 (K (.bool (eqS s1 (ByteArray.mk #[]))) M47) (K (.bool false) M47))
 (cnd (eqF i2 (Int.ofNat 21))
 (∃ (s52 : ByteArray),
 rdVar Try.prog
 (M ++
 [AObj.cells [.int .i64 p00, .string p01, .string p02, .slice p03 p03n p03c, .int .i64 p04] 5
 Mode.live])
 9 (List.length M) 1 =
 some (Value.string s52) ∧
 ∃ (a53 : Option Addr),
 ∃ (n54 : Nat),
 ∃ (n55 : Nat),
 ∃ (M56 : Mem),
 Ret Try.prog 69 []
 (M ++
 [AObj.cells [.int .i64 p00, .string p01, .string p02, .slice p03 p03n p03c, .int .i64 p04] 5
 Mode.live])
 (.slice a53 n54 n55) M56 ∧
 ∃ (a57 : Option Addr),
 ∃ (n58 : Nat),
 ∃ (n59 : Nat),
 sliceA Try.prog M56 53 (.slice a53 n54 n55) (some (Value.int .i64 (Int.ofNat 1))) none none =
 some (Value.slice a57 n58 n59) ∧
 ∃ (b60 : Bool),
 ∃ (M61 : Mem),
 Ret Try.prog 41 [.string s52, .slice a57 n58 n59] M56 (.bool b60) M61 ∧
 (((List.length M <
 List.length
 (M ++
 [AObj.cells
 [.int .i64 p00, .string p01, .string p02, .slice p03 p03n p03c,
 .int .i64 p04]
 5 Mode.live]) →
 M56[List.length M]? =
 (M ++
 [AObj.cells
 [.int .i64 p00, .string p01, .string p02, .slice p03 p03n p03c,
 .int .i64 p04]
 5 Mode.live])[List.length M]?) ∧
 True) ∧
 True) ∧
 cnd b60 (K (.bool (eqS s1 (ByteArray.mk #[]))) M61) (K (.bool false) M61))
 (cnd (eqS s0 (ByteArray.mk #[]))
 (K (.bool (eqS s1 (ByteArray.mk #[])))
 (M ++
 [AObj.cells [.int .i64 p00, .string p01, .string p02, .slice p03 p03n p03c, .int .i64 p04] 5 Mode.live]))
 (K (.bool false)
 (M ++
 [AObj.cells [.int .i64 p00, .string p01, .string p02, .slice p03 p03n p03c, .int .i64 p04] 5
 Mode.live]))))))))))))))) :
 Held (wpRet Try.prog 36 true [] [.agg (Array.mk [.int .i64 p00, .string p01, .string p02, .slice p03 p03n p03c, .int .i64 p04])] M K) := held_of (by kernel_rfl) h
theorem w13 {p00 : Int} {p01 p02 : ByteArray} {p03 : Option Addr} {p03n p03c : Nat} {p04 : Int} {M : Mem} {K : Value → Mem → Prop} (h : ∃ (i0 : Int),
 ∃ (s1 : ByteArray),
 ∃ (s2 : ByteArray),
 ∃ (a3 : Option Addr),
 ∃ (n4 : Nat),
 ∃ (n5 : Nat),
 ∃ (i6 : Int),
 rdVar Try.prog (M ++ [AObj.cells [.int .i64 p00, .string p01, .string p02, .slice p03 p03n p03c, .int .i64 p04] 5 Mode.live]) 24
 (List.length M) 0 =
 some (Value.agg (Array.mk [.int .i64 i0, .string s1, .string s2, .slice a3 n4 n5, .int .i64 i6])) ∧
 ∃ (a7 : Option Addr),
 ∃ (n8 : Nat),
 ∃ (n9 : Nat),
 ∃ (b10 : Bool),
 ∃ (M11 : Mem),
 Ret Try.prog 35 [.agg (Array.mk [.int .i64 i0, .string s1, .string s2, .slice a3 n4 n5, .int .i64 i6])]
 (M ++ [AObj.cells [.int .i64 p00, .string p01, .string p02, .slice p03 p03n p03c, .int .i64 p04] 5 Mode.live])
 (.tuple (Array.mk [.slice a7 n8 n9, .bool b10])) M11 ∧
 ∃ (i12 : Int),
 rdVar Try.prog M11 3 (List.length M) 0 = some (.int .i64 i12) ∧
 cnd (!leF (Int.ofNat 0) i12) (K (.tuple (Array.mk [.slice none 0 0, .bool false])) M11)
 (∃ (i13 : Int),
 rdVar Try.prog M11 3 (List.length M) 0 = some (.int .i64 i13) ∧
 cnd (!leF i13 (Int.ofNat 35)) (K (.tuple (Array.mk [.slice none 0 0, .bool false])) M11)
 (∃ (i14 : Int),
 ∃ (s15 : ByteArray),
 ∃ (s16 : ByteArray),
 ∃ (a17 : Option Addr),
 ∃ (n18 : Nat),
 ∃ (n19 : Nat),
 ∃ (i20 : Int),
 rdVar Try.prog M11 24 (List.length M) 0 =
 some
 (.agg
 (Array.mk
 [.int .i64 i14, .string s15, .string s16, .slice a17 n18 n19, .int .i64 i20])) ∧
 ∃ (b21 : Bool),
 ∃ (M22 : Mem),
 Ret Try.prog 36
 [.agg
 (Array.mk
 [.int .i64 i14, .string s15, .string s16, .slice a17 n18 n19, .int .i64 i20])]
 M11 (.bool b21) M22 ∧
 cnd (!b21) (K (.tuple (Array.mk [.slice none 0 0, .bool false])) M22)
 (cnd (!b10) (K (.tuple (Array.mk [.slice none 0 0, .bool false])) M22)
 (∃ (a23 : Option Addr),
 ∃ (n24 : Nat),
 ∃ (n25 : Nat),
 rdVar Try.prog M22 22 (List.length M) 3 = some (.slice a23 n24 n25) ∧
 cnd (!eqF (Int.ofNat n8) (Int.ofNat n24)) (K (.tuple (Array.mk [.slice none 0 0, .bool false])) M22)
 (K (.tuple (Array.mk [.slice a7 n8 n9, .bool true])) M22)))))) :
 Held (wpRet Try.prog 13 true [] [.agg (Array.mk [.int .i64 p00, .string p01, .string p02, .slice p03 p03n p03c, .int .i64 p04])] M K) := held_of (by kernel_rfl) h
theorem w9 {p00 : Int} {p01 p02 : ByteArray} {p03 : Option Addr} {p03n p03c : Nat} {p04 : Int} {M : Mem} {K : Value → Mem → Prop} (h : ∃ (a0 : Option Addr),
 ∃ (n1 : Nat),
 ∃ (n2 : Nat),
 rdVar Try.prog
 (M ++ [AObj.cells [.int .i64 p00, .string p01, .string p02, .slice p03 p03n p03c, .int .i64 p04] 5 Mode.live] ++
 [AObj.cells [.int .i64 (Int.ofNat 0), .string (ByteArray.mk #[]), .string (ByteArray.mk #[]), .slice none 0 0, .int .i64 (Int.ofNat 0)]
 5 Mode.live] ++
 [AObj.cells [] 1 Mode.live])
 22 (List.length M) 3 =
 some (Value.slice a0 n1 n2) ∧
 ∃ (a3 : Option Addr),
 ∃ (n4 : Nat),
 ∃ (n5 : Nat),
 rdVar Try.prog
 (M ++ [AObj.cells [.int .i64 p00, .string p01, .string p02, .slice p03 p03n p03c, .int .i64 p04] 5 Mode.live] ++
 [AObj.cells
 [.int .i64 (Int.ofNat 0), .string (ByteArray.mk #[]), .string (ByteArray.mk #[]), .slice none 0 0, .int .i64 (Int.ofNat 0)]
 5 Mode.live] ++
 [AObj.cells [] 1 Mode.live])
 22 (List.length M) 3 =
 some (Value.slice a3 n4 n5) ∧
 ∃ (a6 : Option Addr),
 ∃ (n7 : Nat),
 ∃ (n8 : Nat),
 sliceA Try.prog
 (M ++ [AObj.cells [.int .i64 p00, .string p01, .string p02, .slice p03 p03n p03c, .int .i64 p04] 5 Mode.live] ++
 [AObj.cells
 [.int .i64 (Int.ofNat 0), .string (ByteArray.mk #[]), .string (ByteArray.mk #[]), .slice none 0 0,
 .int .i64 (Int.ofNat 0)]
 5 Mode.live] ++
 [AObj.cells [] 1 Mode.live])
 22 (.slice a0 n1 n2) none (some (Value.int .i64 (if Int.ofNat 140 < Int.ofNat n4 then Int.ofNat 140 else Int.ofNat n4))) none =
 some (Value.slice a6 n7 n8) ∧
 ∃ (a9 : Option Addr),
 ∃ (n10 : Nat),
 ∃ (n11 : Nat),
 ∃ (M12 : Mem),
 appendA Try.prog
 (M ++ [AObj.cells [.int .i64 p00, .string p01, .string p02, .slice p03 p03n p03c, .int .i64 p04] 5 Mode.live] ++
 [AObj.cells
 [.int .i64 (Int.ofNat 0), .string (ByteArray.mk #[]), .string (ByteArray.mk #[]), .slice none 0 0,
 .int .i64 (Int.ofNat 0)]
 5 Mode.live] ++
 [AObj.cells [] 1 Mode.live])
 22 22
 (.slice
 (some
 (.mk
 (List.length
 (M ++
 [AObj.cells [.int .i64 p00, .string p01, .string p02, .slice p03 p03n p03c, .int .i64 p04] 5
 Mode.live] ++
 [AObj.cells
 [.int .i64 (Int.ofNat 0), .string (ByteArray.mk #[]), .string (ByteArray.mk #[]), .slice none 0 0,
 .int .i64 (Int.ofNat 0)]
 5 Mode.live]))
 0 none))
 0 0)
 (.slice a6 n7 n8) =
 some (Value.slice a9 n10 n11, M12) ∧
 ∃ (M13 : Mem),
 wrCells M12 (List.length M) 3 [.slice a9 n10 n11] = some M13 ∧
 ∃ (s14 : ByteArray),
 rdVar Try.prog M13 9 (List.length M) 1 = some (.string s14) ∧
 ∃ (s15 : ByteArray),
 rdVar Try.prog M13 9 (List.length M) 1 = some (.string s15) ∧
 ∃ (s16 : ByteArray),
 sliceA Try.prog M13 9 (.string s14) none
 (some (Value.int .i64 (if Int.ofNat 40 < Int.ofNat (ByteArray.size s15) then Int.ofNat 40 else Int.ofNat (ByteArray.size s15))))
 none =
 some (Value.string s16) ∧
 ∃ (M17 : Mem),
 wrCells M13 (List.length M) 1 [.string s16] = some M17 ∧
 ∃ (s18 : ByteArray),
 rdVar Try.prog M17 9 (List.length M) 2 = some (.string s18) ∧
 ∃ (s19 : ByteArray),
 rdVar Try.prog M17 9 (List.length M) 2 = some (.string s19) ∧
 ∃ (s20 : ByteArray),
 sliceA Try.prog M17 9 (.string s18) none
 (some
 (.int .i64
 (if Int.ofNat 40 < Int.ofNat (ByteArray.size s19) then Int.ofNat 40 else Int.ofNat (ByteArray.size s19))))
 none =
 some (Value.string s20) ∧
 ∃ (M21 : Mem),
 wrCells M17 (List.length M) 2 [.string s20] = some M21 ∧
 ∃ (i22 : Int),
 ∃ (s23 : ByteArray),
 ∃ (s24 : ByteArray),
 ∃ (a25 : Option Addr),
 ∃ (n26 : Nat),
 ∃ (n27 : Nat),
 ∃ (i28 : Int),
 rdVar Try.prog M21 24 (List.length M) 0 =
 some
 (.agg
 (Array.mk
 [.int .i64 i22, .string s23, .string s24, .slice a25 n26 n27,
 .int .i64 i28])) ∧
 ∃ (M29 : Mem),
 wrCells M21
 (List.length
 (M ++
 [AObj.cells
 [.int .i64 p00, .string p01, .string p02,
 .slice p03 p03n p03c, .int .i64 p04]
 5 Mode.live]))
 0
 [.int .i64 i22, .string s23, .string s24, .slice a25 n26 n27,
 .int .i64 i28] =
 some M29 ∧
 ∃ (i30 : Int),
 ∃ (s31 : ByteArray),
 ∃ (s32 : ByteArray),
 ∃ (a33 : Option Addr),
 ∃ (n34 : Nat),
 ∃ (n35 : Nat),
 ∃ (i36 : Int),
 rdVar Try.prog M29 24
 (List.length
 (M ++
 [AObj.cells
 [.int .i64 p00, .string p01, .string p02,
 .slice p03 p03n p03c, .int .i64 p04]
 5 Mode.live]))
 0 =
 some
 (.agg
 (Array.mk
 [.int .i64 i30, .string s31, .string s32,
 .slice a33 n34 n35, .int .i64 i36])) ∧
 K
 (.agg
 (Array.mk
 [.int .i64 i30, .string s31, .string s32,
 .slice a33 n34 n35, .int .i64 i36]))
 M29) :
 Held (wpRet Try.prog 9 true [] [.agg (Array.mk [.int .i64 p00, .string p01, .string p02, .slice p03 p03n p03c, .int .i64 p04])] M K) := held_of (by kernel_rfl) h

end Go.Proofs.YtabkcbaknjenmaaAM
