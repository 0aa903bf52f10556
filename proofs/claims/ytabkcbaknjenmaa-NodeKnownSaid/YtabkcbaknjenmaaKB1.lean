/-
  The node laws: what is to be shown for functions.
-/
import Derived.Test.YtabkcbaknjenmaaKA3
import Derived.Test.YtabkcbaknjenmaaRows

/-
  THE NODE LAWS: what is to be shown for functions, printed by a program: lex, slices, reference 5
-/
set_option linter.unusedVariables false
namespace Go.Proofs.YtabkcbaknjenmaaAM
open Go Go.Proofs
set_option maxRecDepth 100000
def ann103 : Ann := [([1, 0, 1, 0, 0, 1, 1, 0, 1, 1, 0, 1, 0], [(some 2, [(7, some 4), (9, none), (18, none), (19, none), (20, none), (21, none), (22, none), (23, none), (24, none), (25, none), (26, none)])]), ([1, 0, 1, 0], [(some 0, [(4, none), (5, none), (6, none), (7, none), (9, none), (12, none), (13, none), (14, none), (15, none), (16, none), (17, none), (18, none), (19, none), (20, none), (21, none), (22, none), (23, none), (24, none), (25, none), (26, none), (27, none), (28, none), (29, none), (30, none), (31, none)]), (none, [(4, some 9), (5, none), (6, none), (7, none), (9, none), (12, none), (13, none), (14, none), (15, none), (16, none), (17, none), (18, none), (19, none), (20, none), (21, none), (22, none), (23, none), (24, none), (25, none), (26, none), (27, none), (28, none), (29, none), (30, none), (31, none)])])]
def ann71 : Ann := [([1, 0, 1, 0], [(some 0, [(4, none), (5, none), (8, none), (9, none), (10, none), (11, none), (12, none), (13, none), (14, none), (15, none), (16, none), (17, none), (18, none)]), (none, [(4, some 3), (5, none), (8, none), (9, none), (10, none), (11, none), (12, none), (13, none), (14, none), (15, none), (16, none), (17, none), (18, none)])])]
def ann41 : Ann := [([1, 0, 1, 0], [(some 0, [(4, none), (5, none), (6, none), (7, none), (8, none), (9, none), (10, none), (11, none), (12, none), (13, none), (14, none), (15, none), (16, none), (17, none)]), (none, [(4, some 4), (5, none), (6, none), (7, none), (8, none), (9, none), (10, none), (11, none), (12, none), (13, none), (14, none), (15, none), (16, none), (17, none)])])]
def ann72 : Ann := [([1, 1, 1, 0, 0], [(some 0, [(5, some 3), (19, none), (20, none), (21, none), (22, none), (23, none), (24, none), (25, none), (26, none), (27, none), (28, none), (29, none), (30, none), (31, none), (32, none), (33, none), (34, none), (35, none), (36, none), (37, none), (38, none), (39, none), (40, none), (41, none), (42, none)])])]
def ann92 : Ann := [([1, 1, 1, 1, 0, 0], [(some 0, [(5, some 3), (21, none), (22, none), (23, none), (24, none), (25, none), (26, none), (27, none), (28, none), (29, none), (30, none), (31, none), (32, none)])])]
theorem w103 {p0 p1 : ByteArray} {M : Mem} {K : Value → Mem → Prop} (h : (∃ (x0 : Nat → Value),
 ∃ (M1 : Mem),
 Lp Try.prog (Env.fn 103) [1, 0, 1, 0]
 (St.mk
 [.string p0, .string p1, undef, undef, .string (ByteArray.mk #[]), undef, undef,
 undef, undef, undef, .string p0, .pointer (some (.mk (List.length M) 0 none)),
 undef, undef, undef, undef, undef, undef,
 undef, undef, undef, undef, undef, undef,
 undef, undef, undef, undef, undef, undef,
 undef, undef]
 [] (M ++ [AObj.siter p0 0]) false)
 (.exit 0)
 (St.mk
 [.string p0, .string p1, undef, undef, x0 4, x0 5, x0 6, x0 7, undef, x0 9, .string p0,
 .pointer (some (.mk (List.length M) 0 none)), x0 12, x0 13, x0 14, x0 15, x0 16, x0 17, x0 18, x0 19, x0 20, x0 21, x0 22, x0 23, x0 24, x0 25, x0 26, x0 27, x0 28,
 x0 29, x0 30, x0 31]
 [] M1 false) ∧
 K (.string (ByteArray.mk #[])) M1) ∨
 ∃ (x2 : Nat → Value),
 ∃ (s3 : ByteArray),
 ∃ (M4 : Mem),
 Lp Try.prog (Env.fn 103) [1, 0, 1, 0]
 (St.mk
 [.string p0, .string p1, undef, undef, .string (ByteArray.mk #[]), undef, undef,
 undef, undef, undef, .string p0, .pointer (some (.mk (List.length M) 0 none)),
 undef, undef, undef, undef, undef, undef,
 undef, undef, undef, undef, undef, undef,
 undef, undef, undef, undef, undef, undef,
 undef, undef]
 [] (M ++ [AObj.siter p0 0]) false)
 .ret
 (St.mk
 [.string p0, .string p1, undef, undef, .string s3, x2 5, x2 6, x2 7, undef, x2 9, .string p0,
 .pointer (some (.mk (List.length M) 0 none)), x2 12, x2 13, x2 14, x2 15, x2 16, x2 17, x2 18, x2 19, x2 20, x2 21, x2 22, x2 23, x2 24, x2 25, x2 26, x2 27, x2 28,
 x2 29, x2 30, x2 31]
 [] M4 false) ∧
 K (.string s3) M4) :
 wpRet Try.prog 103 true ann103 [.string p0, .string p1] M K := Eq.mpr (by kernel_rfl) h
theorem wl103_0 {ut0 ut1 : ByteArray} {uv2 uv3 uv8 uv10 : Value} {ut11 : Nat} (w : Nat → Value) (d : List ADef) (rc : Bool) (M : Mem) (Q : AExit → St → Prop) (h : ∃ (s0 : ByteArray),
 ∃ (n1 : Nat),
 M[ut11]? = some (AObj.siter s0 n1) ∧
 cnd (Nat.blt n1 (ByteArray.size s0))
 (∃ (x4 : Nat → Value),
 ∃ (b5 : Bool),
 ∃ (M6 : Mem),
 Lp Try.prog (Env.fn 103) [1, 0, 1, 0, 0, 1, 1, 0, 1, 1, 0, 1, 0]
 (St.mk
 [.string ut0, .string ut1, uv2, uv3, w 4, .int .i64 (Int.ofNat n1), .int .i32 (Int.ofNat (Prod.fst (Utf8.decode s0 n1))),
 .bool false, uv8, w 9, uv10, .pointer (some (.mk ut11 0 none)),
 .tuple (Array.mk [.bool true, .int .i64 (Int.ofNat n1), .int .i32 (Int.ofNat (Prod.fst (Utf8.decode s0 n1)))]), .bool true,
 .int .i64 (Int.ofNat n1), .int .i32 (Int.ofNat (Prod.fst (Utf8.decode s0 n1))), .string ut1,
 .pointer (some (.mk (List.length (List.set M ut11 (AObj.siter s0 (n1 + Prod.snd (Utf8.decode s0 n1))))) 0 none)), w 18, w 19, w 20, w 21, w 22, w 23, w 24,
 w 25, w 26, w 27, w 28, w 29, w 30, w 31]
 d (List.set M ut11 (AObj.siter s0 (n1 + Prod.snd (Utf8.decode s0 n1))) ++ [AObj.siter ut1 0]) rc)
 (.exit 2)
 (St.mk
 [.string ut0, .string ut1, uv2, uv3, w 4, .int .i64 (Int.ofNat n1), .int .i32 (Int.ofNat (Prod.fst (Utf8.decode s0 n1))), .bool b5,
 uv8, x4 9, uv10, .pointer (some (.mk ut11 0 none)),
 .tuple (Array.mk [.bool true, .int .i64 (Int.ofNat n1), .int .i32 (Int.ofNat (Prod.fst (Utf8.decode s0 n1)))]), .bool true,
 .int .i64 (Int.ofNat n1), .int .i32 (Int.ofNat (Prod.fst (Utf8.decode s0 n1))), .string ut1,
 .pointer (some (.mk (List.length (List.set M ut11 (AObj.siter s0 (n1 + Prod.snd (Utf8.decode s0 n1))))) 0 none)), x4 18, x4 19, x4 20, x4 21, x4 22, x4 23,
 x4 24, x4 25, x4 26, w 27, w 28, w 29, w 30, w 31]
 d M6 rc) ∧
 cnd (!b5)
 (∃ (s7 : ByteArray),
 sliceA Try.prog M6 9 (.string ut0) (some (Value.int .i64 (Int.ofNat n1))) none none = some (.string s7) ∧
 Q .ret
 (St.mk
 [.string ut0, .string ut1, uv2, uv3, .string s7, .int .i64 (Int.ofNat n1),
 .int .i32 (Int.ofNat (Prod.fst (Utf8.decode s0 n1))), .bool b5, uv8, x4 9, uv10, .pointer (some (.mk ut11 0 none)),
 .tuple (Array.mk [.bool true, .int .i64 (Int.ofNat n1), .int .i32 (Int.ofNat (Prod.fst (Utf8.decode s0 n1)))]), .bool true,
 .int .i64 (Int.ofNat n1), .int .i32 (Int.ofNat (Prod.fst (Utf8.decode s0 n1))), .string ut1,
 .pointer (some (.mk (List.length (List.set M ut11 (AObj.siter s0 (n1 + Prod.snd (Utf8.decode s0 n1))))) 0 none)), x4 18, x4 19, x4 20, x4 21, x4 22,
 x4 23, x4 24, x4 25, x4 26, .bool b5, .bool true, .string ut0, .int .i64 (Int.ofNat n1), .string s7]
 d M6 rc))
 (Q .normal
 (St.mk
 [.string ut0, .string ut1, uv2, uv3, w 4, .int .i64 (Int.ofNat n1), .int .i32 (Int.ofNat (Prod.fst (Utf8.decode s0 n1))),
 .bool b5, uv8, x4 9, uv10, .pointer (some (.mk ut11 0 none)),
 .tuple (Array.mk [.bool true, .int .i64 (Int.ofNat n1), .int .i32 (Int.ofNat (Prod.fst (Utf8.decode s0 n1)))]), .bool true,
 .int .i64 (Int.ofNat n1), .int .i32 (Int.ofNat (Prod.fst (Utf8.decode s0 n1))), .string ut1,
 .pointer (some (.mk (List.length (List.set M ut11 (AObj.siter s0 (n1 + Prod.snd (Utf8.decode s0 n1))))) 0 none)), x4 18, x4 19, x4 20, x4 21, x4 22, x4 23,
 x4 24, x4 25, x4 26, .bool b5, .bool false, w 29, w 30, w 31]
 d M6 rc)))
 (Q (.exit 0)
 (St.mk
 [.string ut0, .string ut1, uv2, uv3, w 4, w 5, w 6, w 7, uv8, w 9, uv10, .pointer (some (.mk ut11 0 none)), .tuple (Array.mk [.bool false]),
 .bool false, w 14, w 15, w 16, w 17, w 18, w 19, w 20, w 21, w 22, w 23, w 24, w 25, w 26, w 27, w 28, w 29, w 30, w 31]
 d M rc))) :
 wpAt Try.prog (Env.fn 103) true ann103 [1, 0, 1, 0, 0]
 (St.mk
 [.string ut0, .string ut1, uv2, uv3, w 4, w 5, w 6, w 7, uv8, w 9, uv10, .pointer (some (.mk ut11 0 none)), w 12, w 13, w 14, w 15, w 16, w 17, w 18, w 19, w 20, w 21,
 w 22, w 23, w 24, w 25, w 26, w 27, w 28, w 29, w 30, w 31]
 d M rc)
 Q := Eq.mpr (by kernel_rfl) h
def I103_0 (ut0 ut1 : ByteArray) (uv2 uv3 uv8 uv10 : Value) (ut11 : Nat) (d : List ADef) (rc : Bool) (Inv : Nat → Mem → Prop) (n : Nat) (s : St) : Prop := ∃ (w : Nat → Value) (M : Mem), s = (St.mk
 [.string ut0, .string ut1, uv2, uv3, w 4, w 5, w 6, w 7, uv8, w 9, uv10, .pointer (some (.mk ut11 0 none)), w 12, w 13, w 14, w 15, w 16, w 17, w 18, w 19, w 20, w 21,
 w 22, w 23, w 24, w 25, w 26, w 27, w 28, w 29, w 30, w 31]
 d M rc) ∧ Inv n M
theorem I103_0.mk {ut0 ut1 : ByteArray} {uv2 uv3 uv8 uv10 : Value} {ut11 : Nat} {d : List ADef} {rc : Bool} {Inv : Nat → Mem → Prop} {n : Nat} {v4 v5 v6 v7 v9 v12 v13 v14 v15 v16 v17 v18 v19 v20 v21 v22 v23 v24 v25 v26 v27 v28 v29 v30 v31 : Value} {M : Mem} (hI : Inv n M) : I103_0 ut0 ut1 uv2 uv3 uv8 uv10 ut11 d rc Inv n (St.mk
 [.string ut0, .string ut1, uv2, uv3, v4, v5, v6, v7, uv8, v9, uv10, .pointer (some (.mk ut11 0 none)), v12, v13, v14, v15, v16, v17, v18, v19, v20, v21, v22, v23, v24,
 v25, v26, v27, v28, v29, v30, v31]
 d M rc) := ⟨(fun i => List.getD ([.string ut0, .string ut1, uv2, uv3, v4, v5, v6, v7, uv8, v9, uv10, .pointer (some (.mk ut11 0 none)), v12, v13, v14, v15, v16, v17, v18, v19, v20, v21, v22, v23, v24,
 v25, v26, v27, v28, v29, v30, v31]) i undef), _, rfl, hI⟩
def X103_0 (ut0 ut1 : ByteArray) (uv2 uv3 uv8 uv10 : Value) (ut11 : Nat) (d : List ADef) (rc : Bool) (R0 : Mem → Prop) (R1 : ByteArray → Mem → Prop) (e : AExit) (s : St) : Prop := (e = (.exit 0) ∧ ∃ (w : Nat → Value) (M : Mem), s = (St.mk
 [.string ut0, .string ut1, uv2, uv3, w 4, w 5, w 6, w 7, uv8, w 9, uv10, .pointer (some (.mk ut11 0 none)), w 12, w 13, w 14, w 15, w 16, w 17, w 18, w 19, w 20, w 21,
 w 22, w 23, w 24, w 25, w 26, w 27, w 28, w 29, w 30, w 31]
 d M rc) ∧ R0 M) ∨ (e = .ret ∧ ∃ (ot4 : ByteArray) (w : Nat → Value) (M : Mem), s = (St.mk
 [.string ut0, .string ut1, uv2, uv3, .string ot4, w 5, w 6, w 7, uv8, w 9, uv10, .pointer (some (.mk ut11 0 none)), w 12, w 13, w 14, w 15, w 16, w 17, w 18, w 19,
 w 20, w 21, w 22, w 23, w 24, w 25, w 26, w 27, w 28, w 29, w 30, w 31]
 d M rc) ∧ R1 ot4 M)
theorem X103_0.mk0 {ut0 ut1 : ByteArray} {uv2 uv3 uv8 uv10 : Value} {ut11 : Nat} {d : List ADef} {rc : Bool} {R0 : Mem → Prop} {R1 : ByteArray → Mem → Prop} {ov4 ov5 ov6 ov7 ov9 ov12 ov13 ov14 ov15 ov16 ov17 ov18 ov19 ov20 ov21 ov22 ov23 ov24 ov25 ov26 ov27 ov28 ov29 ov30 ov31 : Value} {M : Mem} (hI : R0 M) : X103_0 ut0 ut1 uv2 uv3 uv8 uv10 ut11 d rc R0 R1 (.exit 0) (St.mk
 [.string ut0, .string ut1, uv2, uv3, ov4, ov5, ov6, ov7, uv8, ov9, uv10, .pointer (some (.mk ut11 0 none)), ov12, ov13, ov14, ov15, ov16, ov17, ov18, ov19, ov20, ov21,
 ov22, ov23, ov24, ov25, ov26, ov27, ov28, ov29, ov30, ov31]
 d M rc) := (.inl ⟨rfl, (fun i => List.getD ([.string ut0, .string ut1, uv2, uv3, ov4, ov5, ov6, ov7, uv8, ov9, uv10, .pointer (some (.mk ut11 0 none)), ov12, ov13, ov14, ov15, ov16, ov17, ov18, ov19, ov20, ov21,
 ov22, ov23, ov24, ov25, ov26, ov27, ov28, ov29, ov30, ov31]) i undef), _, rfl, hI⟩)
theorem X103_0.mk1 {ut0 ut1 : ByteArray} {uv2 uv3 uv8 uv10 : Value} {ut11 : Nat} {d : List ADef} {rc : Bool} {R0 : Mem → Prop} {R1 : ByteArray → Mem → Prop} {ot4 : ByteArray} {ov5 ov6 ov7 ov9 ov12 ov13 ov14 ov15 ov16 ov17 ov18 ov19 ov20 ov21 ov22 ov23 ov24 ov25 ov26 ov27 ov28 ov29 ov30 ov31 : Value} {M : Mem} (hI : R1 ot4 M) : X103_0 ut0 ut1 uv2 uv3 uv8 uv10 ut11 d rc R0 R1 .ret (St.mk
 [.string ut0, .string ut1, uv2, uv3, .string ot4, ov5, ov6, ov7, uv8, ov9, uv10, .pointer (some (.mk ut11 0 none)), ov12, ov13, ov14, ov15, ov16, ov17, ov18, ov19,
 ov20, ov21, ov22, ov23, ov24, ov25, ov26, ov27, ov28, ov29, ov30, ov31]
 d M rc) := (.inr ⟨rfl, _, (fun i => List.getD ([.string ut0, .string ut1, uv2, uv3, .string ot4, ov5, ov6, ov7, uv8, ov9, uv10, .pointer (some (.mk ut11 0 none)), ov12, ov13, ov14, ov15, ov16, ov17, ov18, ov19,
 ov20, ov21, ov22, ov23, ov24, ov25, ov26, ov27, ov28, ov29, ov30, ov31]) i undef), _, rfl, hI⟩)
theorem loop103_0 {ut0 ut1 : ByteArray} {uv2 uv3 uv8 uv10 : Value} {ut11 : Nat} {d : List ADef} {rc : Bool} (Inv : Nat → Mem → Prop) (R0 : Mem → Prop) (R1 : ByteArray → Mem → Prop)
 (step : ∀ (n : Nat) (w : Nat → Value) (M : Mem), Inv n M →
 ∃ (s0 : ByteArray), ∃ (n1 : Nat), (M[ut11]? = some (AObj.siter s0 n1)) ∧ cnd (Nat.blt n1 (ByteArray.size s0))
 (∃ (x4 : Nat → Value), ∃ (b5 : Bool), ∃ (M6 : Mem), (Lp Try.prog (Env.fn 103) [1, 0, 1, 0, 0, 1, 1, 0, 1, 1, 0, 1, 0]
 (St.mk
 [.string ut0, .string ut1, uv2, uv3, w 4, .int .i64 (Int.ofNat n1), .int .i32 (Int.ofNat (Prod.fst (Utf8.decode s0 n1))), .bool false, uv8, w 9,
 uv10, .pointer (some (.mk ut11 0 none)),
 .tuple (Array.mk [.bool true, .int .i64 (Int.ofNat n1), .int .i32 (Int.ofNat (Prod.fst (Utf8.decode s0 n1)))]), .bool true,
 .int .i64 (Int.ofNat n1), .int .i32 (Int.ofNat (Prod.fst (Utf8.decode s0 n1))), .string ut1,
 .pointer (some (.mk (List.length (List.set M ut11 (AObj.siter s0 (n1 + Prod.snd (Utf8.decode s0 n1))))) 0 none)), w 18, w 19, w 20, w 21, w 22, w 23, w 24, w 25, w 26, w 27,
 w 28, w 29, w 30, w 31]
 d (List.set M ut11 (AObj.siter s0 (n1 + Prod.snd (Utf8.decode s0 n1))) ++ [AObj.siter ut1 0]) rc)
 (.exit 2)
 (St.mk
 [.string ut0, .string ut1, uv2, uv3, w 4, .int .i64 (Int.ofNat n1), .int .i32 (Int.ofNat (Prod.fst (Utf8.decode s0 n1))), .bool b5, uv8, x4 9,
 uv10, .pointer (some (.mk ut11 0 none)),
 .tuple (Array.mk [.bool true, .int .i64 (Int.ofNat n1), .int .i32 (Int.ofNat (Prod.fst (Utf8.decode s0 n1)))]), .bool true,
 .int .i64 (Int.ofNat n1), .int .i32 (Int.ofNat (Prod.fst (Utf8.decode s0 n1))), .string ut1,
 .pointer (some (.mk (List.length (List.set M ut11 (AObj.siter s0 (n1 + Prod.snd (Utf8.decode s0 n1))))) 0 none)), x4 18, x4 19, x4 20, x4 21, x4 22, x4 23, x4 24, x4 25,
 x4 26, w 27, w 28, w 29, w 30, w 31]
 d M6 rc)) ∧ cnd (!b5)
 (∃ (s7 : ByteArray), (sliceA Try.prog M6 9 (.string ut0) (some (Value.int .i64 (Int.ofNat n1))) none none = some (.string s7)) ∧ R1 (s7) (M6))
 (∃ m, m < n ∧ Inv m (M6)))
 (R0 (M)))
 {n : Nat} {v4 v5 v6 v7 v9 v12 v13 v14 v15 v16 v17 v18 v19 v20 v21 v22 v23 v24 v25 v26 v27 v28 v29 v30 v31 : Value} {M : Mem} (h0 : Inv n M) :
 (∃ (w : Nat → Value) (M' : Mem), Lp Try.prog (Env.fn 103) [1, 0, 1, 0] (St.mk
 [.string ut0, .string ut1, uv2, uv3, v4, v5, v6, v7, uv8, v9, uv10, .pointer (some (.mk ut11 0 none)), v12, v13, v14, v15, v16, v17, v18, v19, v20, v21, v22, v23, v24,
 v25, v26, v27, v28, v29, v30, v31]
 d M rc) (.exit 0) (St.mk [.string ut0, .string ut1, uv2, uv3, w 4, w 5, w 6, w 7, uv8, w 9, uv10, .pointer (some (.mk ut11 0 none)), w 12, w 13, w 14, w 15, w 16, w 17, w 18, w 19, w 20, w 21,
 w 22, w 23, w 24, w 25, w 26, w 27, w 28, w 29, w 30, w 31] d M' rc) ∧ R0 M') ∨ (∃ (w : Nat → Value) (ot4 : ByteArray) (M' : Mem), Lp Try.prog (Env.fn 103) [1, 0, 1, 0] (St.mk
 [.string ut0, .string ut1, uv2, uv3, v4, v5, v6, v7, uv8, v9, uv10, .pointer (some (.mk ut11 0 none)), v12, v13, v14, v15, v16, v17, v18, v19, v20, v21, v22, v23, v24,
 v25, v26, v27, v28, v29, v30, v31]
 d M rc) .ret (St.mk [.string ut0, .string ut1, uv2, uv3, .string ot4, w 5, w 6, w 7, uv8, w 9, uv10, .pointer (some (.mk ut11 0 none)), w 12, w 13, w 14, w 15, w 16, w 17, w 18, w 19,
 w 20, w 21, w 22, w 23, w 24, w 25, w 26, w 27, w 28, w 29, w 30, w 31] d M' rc) ∧ R1 ot4 M') := by
 have mono : ∀ (n : Nat) (w : Nat → Value) (M : Mem) (Q : AExit → St → Prop) (hN : ∀ {m : Nat} {v4 v5 v6 v7 v9 v12 v13 v14 v15 v16 v17 v18 v19 v20 v21 v22 v23 v24 v25 v26 v27 v28 v29 v30 v31 : Value} {M : Mem}, m < n → Inv m M → Q .normal (St.mk
 [.string ut0, .string ut1, uv2, uv3, v4, v5, v6, v7, uv8, v9, uv10, .pointer (some (.mk ut11 0 none)), v12, v13, v14, v15, v16, v17, v18, v19, v20, v21, v22, v23, v24,
 v25, v26, v27, v28, v29, v30, v31]
 d M rc)) (hE0 : ∀ {ov4 ov5 ov6 ov7 ov9 ov12 ov13 ov14 ov15 ov16 ov17 ov18 ov19 ov20 ov21 ov22 ov23 ov24 ov25 ov26 ov27 ov28 ov29 ov30 ov31 : Value} {M : Mem}, R0 M → Q (.exit 0) (St.mk
 [.string ut0, .string ut1, uv2, uv3, ov4, ov5, ov6, ov7, uv8, ov9, uv10, .pointer (some (.mk ut11 0 none)), ov12, ov13, ov14, ov15, ov16, ov17, ov18, ov19, ov20, ov21,
 ov22, ov23, ov24, ov25, ov26, ov27, ov28, ov29, ov30, ov31]
 d M rc)) (hE1 : ∀ {ot4 : ByteArray} {ov5 ov6 ov7 ov9 ov12 ov13 ov14 ov15 ov16 ov17 ov18 ov19 ov20 ov21 ov22 ov23 ov24 ov25 ov26 ov27 ov28 ov29 ov30 ov31 : Value} {M : Mem}, R1 ot4 M → Q .ret (St.mk
 [.string ut0, .string ut1, uv2, uv3, .string ot4, ov5, ov6, ov7, uv8, ov9, uv10, .pointer (some (.mk ut11 0 none)), ov12, ov13, ov14, ov15, ov16, ov17, ov18, ov19,
 ov20, ov21, ov22, ov23, ov24, ov25, ov26, ov27, ov28, ov29, ov30, ov31]
 d M rc)) , Inv n M → wpAt Try.prog (Env.fn 103) true ann103 [1, 0, 1, 0, 0] (St.mk
 [.string ut0, .string ut1, uv2, uv3, w 4, w 5, w 6, w 7, uv8, w 9, uv10, .pointer (some (.mk ut11 0 none)), w 12, w 13, w 14, w 15, w 16, w 17, w 18, w 19, w 20, w 21,
 w 22, w 23, w 24, w 25, w 26, w 27, w 28, w 29, w 30, w 31]
 d M rc) Q :=
 fun n w M Q hN hE0 hE1 hI => wl103_0 w _ _ _ Q ((fun ⟨s0, h⟩ => ⟨s0, (fun ⟨n1, h⟩ => ⟨n1, (fun ⟨a, h⟩ => ⟨a, (cnd_mono (fun ⟨x4, h⟩ => ⟨x4, (fun ⟨b5, h⟩ => ⟨b5, (fun ⟨M6, h⟩ => ⟨M6, (fun ⟨a, h⟩ => ⟨a, (cnd_mono (fun ⟨s7, h⟩ => ⟨s7, (fun ⟨a, h⟩ => ⟨a, hE1 h⟩) h⟩) (fun ⟨_, hm, hi⟩ => hN hm hi)) h⟩) h⟩) h⟩) h⟩) hE0) h⟩) h⟩) h⟩) (step n w M hI))
 have key := loop_lp (P := Try.prog) (E := Env.fn 103) (sym := true) (ann := ann103) (p := [1, 0, 1, 0]) (body := stepC (codeOf Try.prog 103 [1, 0, 1, 0]) 0) (by kernel_rfl) (I103_0 ut0 ut1 uv2 uv3 uv8 uv10 ut11 d rc Inv) (X103_0 ut0 ut1 uv2 uv3 uv8 uv10 ut11 d rc R0 R1) (by
 rintro n s ⟨_, _, rfl, hI⟩
 exact mono n _ _ _ (fun hm hi => ⟨_, hm, .mk hi⟩) (fun hr => .mk0 hr) (fun hr => .mk1 hr) hI)
 obtain ⟨e, s', h1, hX⟩ := key n _ (.mk h0)
 rcases hX with ⟨rfl, _, _, rfl, h2⟩ | ⟨rfl, _, _, _, rfl, h2⟩
 · exact (.inl ⟨_, _, h1, h2⟩)
 · exact (.inr ⟨_, _, _, h1, h2⟩)
theorem wl103_1 {ut0 ut1 : ByteArray} {uv2 uv3 uv4 : Value} {ut5 ut6 : Int} {uv8 uv10 : Value} {ut11 : Nat} {uv12 uv13 uv14 uv15 uv16 : Value} {ut17 : Nat} {uv27 uv28 uv29 uv30 uv31 : Value} (t7 : Bool) (w : Nat → Value) (d : List ADef) (rc : Bool) (M : Mem) (Q : AExit → St → Prop) (h : ∃ (s0 : ByteArray),
 ∃ (n1 : Nat),
 M[ut17]? = some (AObj.siter s0 n1) ∧
 cnd (Nat.blt n1 (ByteArray.size s0))
 (cnd t7
 (Q .normal
 (St.mk
 [.string ut0, .string ut1, uv2, uv3, uv4, .int .i64 ut5, .int .i32 ut6, .bool true, uv8,
 .int .i32 (Int.ofNat (Prod.fst (Utf8.decode s0 n1))), uv10, .pointer (some (.mk ut11 0 none)), uv12, uv13, uv14, uv15, uv16,
 .pointer (some (.mk ut17 0 none)),
 .tuple (Array.mk [.bool true, .int .i64 (Int.ofNat n1), .int .i32 (Int.ofNat (Prod.fst (Utf8.decode s0 n1)))]), .bool true,
 .int .i32 (Int.ofNat (Prod.fst (Utf8.decode s0 n1))), .bool t7, .bool true, undef, undef,
 undef, .bool true, uv27, uv28, uv29, uv30, uv31]
 d (List.set M ut17 (AObj.siter s0 (n1 + Prod.snd (Utf8.decode s0 n1)))) rc))
 (Q .normal
 (St.mk
 [.string ut0, .string ut1, uv2, uv3, uv4, .int .i64 ut5, .int .i32 ut6, .bool (eqF ut6 (Int.ofNat (Prod.fst (Utf8.decode s0 n1)))), uv8,
 .int .i32 (Int.ofNat (Prod.fst (Utf8.decode s0 n1))), uv10, .pointer (some (.mk ut11 0 none)), uv12, uv13, uv14, uv15, uv16,
 .pointer (some (.mk ut17 0 none)),
 .tuple (Array.mk [.bool true, .int .i64 (Int.ofNat n1), .int .i32 (Int.ofNat (Prod.fst (Utf8.decode s0 n1)))]), .bool true,
 .int .i32 (Int.ofNat (Prod.fst (Utf8.decode s0 n1))), .bool t7, .bool false, .int .i32 ut6,
 .int .i32 (Int.ofNat (Prod.fst (Utf8.decode s0 n1))), .bool (eqF ut6 (Int.ofNat (Prod.fst (Utf8.decode s0 n1)))),
 .bool (eqF ut6 (Int.ofNat (Prod.fst (Utf8.decode s0 n1)))), uv27, uv28, uv29, uv30, uv31]
 d (List.set M ut17 (AObj.siter s0 (n1 + Prod.snd (Utf8.decode s0 n1)))) rc)))
 (Q (.exit 2)
 (St.mk
 [.string ut0, .string ut1, uv2, uv3, uv4, .int .i64 ut5, .int .i32 ut6, .bool t7, uv8, w 9, uv10,
 .pointer (some (.mk ut11 0 none)), uv12, uv13, uv14, uv15, uv16, .pointer (some (.mk ut17 0 none)), .tuple (Array.mk [.bool false]),
 .bool false, w 20, w 21, w 22, w 23, w 24, w 25, w 26, uv27, uv28, uv29, uv30, uv31]
 d M rc))) :
 wpAt Try.prog (Env.fn 103) true ann103 [1, 0, 1, 0, 0, 1, 1, 0, 1, 1, 0, 1, 0, 0]
 (St.mk
 [.string ut0, .string ut1, uv2, uv3, uv4, .int .i64 ut5, .int .i32 ut6, .bool t7, uv8, w 9, uv10, .pointer (some (.mk ut11 0 none)), uv12,
 uv13, uv14, uv15, uv16, .pointer (some (.mk ut17 0 none)), w 18, w 19, w 20, w 21, w 22, w 23, w 24, w 25, w 26, uv27, uv28, uv29, uv30, uv31]
 d M rc)
 Q := Eq.mpr (by kernel_rfl) h
def I103_1 (ut0 ut1 : ByteArray) (uv2 uv3 uv4 : Value) (ut5 ut6 : Int) (uv8 uv10 : Value) (ut11 : Nat) (uv12 uv13 uv14 uv15 uv16 : Value) (ut17 : Nat) (uv27 uv28 uv29 uv30 uv31 : Value) (d : List ADef) (rc : Bool) (Inv : Nat → Bool → Mem → Prop) (n : Nat) (s : St) : Prop := ∃ (t7 : Bool) (w : Nat → Value) (M : Mem), s = (St.mk
 [.string ut0, .string ut1, uv2, uv3, uv4, .int .i64 ut5, .int .i32 ut6, .bool t7, uv8, w 9, uv10, .pointer (some (.mk ut11 0 none)), uv12,
 uv13, uv14, uv15, uv16, .pointer (some (.mk ut17 0 none)), w 18, w 19, w 20, w 21, w 22, w 23, w 24, w 25, w 26, uv27, uv28, uv29, uv30, uv31]
 d M rc) ∧ Inv n t7 M
theorem I103_1.mk {ut0 ut1 : ByteArray} {uv2 uv3 uv4 : Value} {ut5 ut6 : Int} {uv8 uv10 : Value} {ut11 : Nat} {uv12 uv13 uv14 uv15 uv16 : Value} {ut17 : Nat} {uv27 uv28 uv29 uv30 uv31 : Value} {d : List ADef} {rc : Bool} {Inv : Nat → Bool → Mem → Prop} {n : Nat} {t7 : Bool} {v9 v18 v19 v20 v21 v22 v23 v24 v25 v26 : Value} {M : Mem} (hI : Inv n t7 M) : I103_1 ut0 ut1 uv2 uv3 uv4 ut5 ut6 uv8 uv10 ut11 uv12 uv13 uv14 uv15 uv16 ut17 uv27 uv28 uv29 uv30 uv31 d rc Inv n (St.mk
 [.string ut0, .string ut1, uv2, uv3, uv4, .int .i64 ut5, .int .i32 ut6, .bool t7, uv8, v9, uv10, .pointer (some (.mk ut11 0 none)), uv12,
 uv13, uv14, uv15, uv16, .pointer (some (.mk ut17 0 none)), v18, v19, v20, v21, v22, v23, v24, v25, v26, uv27, uv28, uv29, uv30, uv31]
 d M rc) := ⟨_, (fun i => List.getD ([.string ut0, .string ut1, uv2, uv3, uv4, .int .i64 ut5, .int .i32 ut6, .bool t7, uv8, v9, uv10, .pointer (some (.mk ut11 0 none)), uv12,
 uv13, uv14, uv15, uv16, .pointer (some (.mk ut17 0 none)), v18, v19, v20, v21, v22, v23, v24, v25, v26, uv27, uv28, uv29, uv30, uv31]) i undef), _, rfl, hI⟩
def X103_1 (ut0 ut1 : ByteArray) (uv2 uv3 uv4 : Value) (ut5 ut6 : Int) (uv8 uv10 : Value) (ut11 : Nat) (uv12 uv13 uv14 uv15 uv16 : Value) (ut17 : Nat) (uv27 uv28 uv29 uv30 uv31 : Value) (d : List ADef) (rc : Bool) (R0 : Bool → Mem → Prop) (e : AExit) (s : St) : Prop := (e = (.exit 2) ∧ ∃ (ot7 : Bool) (w : Nat → Value) (M : Mem), s = (St.mk
 [.string ut0, .string ut1, uv2, uv3, uv4, .int .i64 ut5, .int .i32 ut6, .bool ot7, uv8, w 9, uv10, .pointer (some (.mk ut11 0 none)), uv12,
 uv13, uv14, uv15, uv16, .pointer (some (.mk ut17 0 none)), w 18, w 19, w 20, w 21, w 22, w 23, w 24, w 25, w 26, uv27, uv28, uv29, uv30, uv31]
 d M rc) ∧ R0 ot7 M)
theorem X103_1.mk0 {ut0 ut1 : ByteArray} {uv2 uv3 uv4 : Value} {ut5 ut6 : Int} {uv8 uv10 : Value} {ut11 : Nat} {uv12 uv13 uv14 uv15 uv16 : Value} {ut17 : Nat} {uv27 uv28 uv29 uv30 uv31 : Value} {d : List ADef} {rc : Bool} {R0 : Bool → Mem → Prop} {ot7 : Bool} {ov9 ov18 ov19 ov20 ov21 ov22 ov23 ov24 ov25 ov26 : Value} {M : Mem} (hI : R0 ot7 M) : X103_1 ut0 ut1 uv2 uv3 uv4 ut5 ut6 uv8 uv10 ut11 uv12 uv13 uv14 uv15 uv16 ut17 uv27 uv28 uv29 uv30 uv31 d rc R0 (.exit 2) (St.mk
 [.string ut0, .string ut1, uv2, uv3, uv4, .int .i64 ut5, .int .i32 ut6, .bool ot7, uv8, ov9, uv10, .pointer (some (.mk ut11 0 none)), uv12,
 uv13, uv14, uv15, uv16, .pointer (some (.mk ut17 0 none)), ov18, ov19, ov20, ov21, ov22, ov23, ov24, ov25, ov26, uv27, uv28, uv29, uv30, uv31]
 d M rc) := ⟨rfl, _, (fun i => List.getD ([.string ut0, .string ut1, uv2, uv3, uv4, .int .i64 ut5, .int .i32 ut6, .bool ot7, uv8, ov9, uv10, .pointer (some (.mk ut11 0 none)), uv12,
 uv13, uv14, uv15, uv16, .pointer (some (.mk ut17 0 none)), ov18, ov19, ov20, ov21, ov22, ov23, ov24, ov25, ov26, uv27, uv28, uv29, uv30, uv31]) i undef), _, rfl, hI⟩
theorem loop103_1 {ut0 ut1 : ByteArray} {uv2 uv3 uv4 : Value} {ut5 ut6 : Int} {uv8 uv10 : Value} {ut11 : Nat} {uv12 uv13 uv14 uv15 uv16 : Value} {ut17 : Nat} {uv27 uv28 uv29 uv30 uv31 : Value} {d : List ADef} {rc : Bool} (Inv : Nat → Bool → Mem → Prop) (R0 : Bool → Mem → Prop)
 (step : ∀ (n : Nat) (t7 : Bool) (M : Mem), Inv n t7 M →
 ∃ (s0 : ByteArray), ∃ (n1 : Nat), (M[ut17]? = some (AObj.siter s0 n1)) ∧ cnd (Nat.blt n1 (ByteArray.size s0))
 (cnd (t7)
 (∃ m, m < n ∧ Inv m (true) (List.set M ut17 (AObj.siter s0 (n1 + Prod.snd (Utf8.decode s0 n1)))))
 (∃ m, m < n ∧ Inv m (eqF ut6 (Int.ofNat (Prod.fst (Utf8.decode s0 n1)))) (List.set M ut17 (AObj.siter s0 (n1 + Prod.snd (Utf8.decode s0 n1))))))
 (R0 (t7) (M)))
 {n : Nat} {t7 : Bool} {v9 v18 v19 v20 v21 v22 v23 v24 v25 v26 : Value} {M : Mem} (h0 : Inv n t7 M) :
 (∃ (w : Nat → Value) (ot7 : Bool) (M' : Mem), Lp Try.prog (Env.fn 103) [1, 0, 1, 0, 0, 1, 1, 0, 1, 1, 0, 1, 0] (St.mk
 [.string ut0, .string ut1, uv2, uv3, uv4, .int .i64 ut5, .int .i32 ut6, .bool t7, uv8, v9, uv10, .pointer (some (.mk ut11 0 none)), uv12,
 uv13, uv14, uv15, uv16, .pointer (some (.mk ut17 0 none)), v18, v19, v20, v21, v22, v23, v24, v25, v26, uv27, uv28, uv29, uv30, uv31]
 d M rc) (.exit 2) (St.mk [.string ut0, .string ut1, uv2, uv3, uv4, .int .i64 ut5, .int .i32 ut6, .bool ot7, uv8, w 9, uv10, .pointer (some (.mk ut11 0 none)), uv12,
 uv13, uv14, uv15, uv16, .pointer (some (.mk ut17 0 none)), w 18, w 19, w 20, w 21, w 22, w 23, w 24, w 25, w 26, uv27, uv28, uv29, uv30, uv31] d M' rc) ∧ R0 ot7 M') := by
 have mono : ∀ (n : Nat) (t7 : Bool) (w : Nat → Value) (M : Mem) (Q : AExit → St → Prop) (hN : ∀ {m : Nat} {t7 : Bool} {v9 v18 v19 v20 v21 v22 v23 v24 v25 v26 : Value} {M : Mem}, m < n → Inv m t7 M → Q .normal (St.mk
 [.string ut0, .string ut1, uv2, uv3, uv4, .int .i64 ut5, .int .i32 ut6, .bool t7, uv8, v9, uv10, .pointer (some (.mk ut11 0 none)), uv12,
 uv13, uv14, uv15, uv16, .pointer (some (.mk ut17 0 none)), v18, v19, v20, v21, v22, v23, v24, v25, v26, uv27, uv28, uv29, uv30, uv31]
 d M rc)) (hE0 : ∀ {ot7 : Bool} {ov9 ov18 ov19 ov20 ov21 ov22 ov23 ov24 ov25 ov26 : Value} {M : Mem}, R0 ot7 M → Q (.exit 2) (St.mk
 [.string ut0, .string ut1, uv2, uv3, uv4, .int .i64 ut5, .int .i32 ut6, .bool ot7, uv8, ov9, uv10, .pointer (some (.mk ut11 0 none)), uv12,
 uv13, uv14, uv15, uv16, .pointer (some (.mk ut17 0 none)), ov18, ov19, ov20, ov21, ov22, ov23, ov24, ov25, ov26, uv27, uv28, uv29, uv30, uv31]
 d M rc)) , Inv n t7 M → wpAt Try.prog (Env.fn 103) true ann103 [1, 0, 1, 0, 0, 1, 1, 0, 1, 1, 0, 1, 0, 0] (St.mk
 [.string ut0, .string ut1, uv2, uv3, uv4, .int .i64 ut5, .int .i32 ut6, .bool t7, uv8, w 9, uv10, .pointer (some (.mk ut11 0 none)), uv12,
 uv13, uv14, uv15, uv16, .pointer (some (.mk ut17 0 none)), w 18, w 19, w 20, w 21, w 22, w 23, w 24, w 25, w 26, uv27, uv28, uv29, uv30, uv31]
 d M rc) Q :=
 fun n t7 w M Q hN hE0 hI => wl103_1 _ w _ _ _ Q ((fun ⟨s0, h⟩ => ⟨s0, (fun ⟨n1, h⟩ => ⟨n1, (fun ⟨a, h⟩ => ⟨a, (cnd_mono (cnd_mono (fun ⟨_, hm, hi⟩ => hN hm hi) (fun ⟨_, hm, hi⟩ => hN hm hi)) hE0) h⟩) h⟩) h⟩) (step n t7 M hI))
 have key := loop_lp (P := Try.prog) (E := Env.fn 103) (sym := true) (ann := ann103) (p := [1, 0, 1, 0, 0, 1, 1, 0, 1, 1, 0, 1, 0]) (body := stepC (codeOf Try.prog 103 [1, 0, 1, 0, 0, 1, 1, 0, 1, 1, 0, 1, 0]) 0) (by kernel_rfl) (I103_1 ut0 ut1 uv2 uv3 uv4 ut5 ut6 uv8 uv10 ut11 uv12 uv13 uv14 uv15 uv16 ut17 uv27 uv28 uv29 uv30 uv31 d rc Inv) (X103_1 ut0 ut1 uv2 uv3 uv4 ut5 ut6 uv8 uv10 ut11 uv12 uv13 uv14 uv15 uv16 ut17 uv27 uv28 uv29 uv30 uv31 d rc R0) (by
 rintro n s ⟨_, _, _, rfl, hI⟩
 exact mono n _ _ _ _ (fun hm hi => ⟨_, hm, .mk hi⟩) (fun hr => .mk0 hr) hI)
 obtain ⟨e, s', h1, hX⟩ := key n _ (.mk h0)
 rcases hX with ⟨rfl, _, _, _, rfl, h2⟩
 · exact ⟨_, _, _, h1, h2⟩
theorem w87 {p0 p1 : ByteArray} {M : Mem} {K : Value → Mem → Prop} (h : ∃ (s0 : ByteArray),
 ∃ (M1 : Mem),
 Ret Try.prog 103 [.string p0, .string p1] M (.string s0) M1 ∧
 K (.int .i64 (wrapF .i64 (Int.sub (Int.ofNat (ByteArray.size p0)) (Int.ofNat (ByteArray.size s0))))) M1) :
 wpRet Try.prog 87 true [] [.string p0, .string p1] M K := Eq.mpr (by kernel_rfl) h
theorem w70 {p0 : ByteArray} {M : Mem} {K : Value → Mem → Prop} (h : cnd (eqS p0 (ByteArray.mk #[])) (K (.int .i64 (Int.ofNat 0)) M)
 (∃ (s0 : ByteArray),
 sliceA Try.prog M 9 (.string p0) none (some (Value.int .i64 (Int.ofNat 1))) none = some (.string s0) ∧
 ∃ (i1 : Int),
 ∃ (M2 : Mem),
 Ret Try.prog 87
 [.string s0,
 .string
 (ByteArray.mk
 #[97, 98, 99, 100, 101, 102, 103, 104, 105, 106, 107, 108, 109, 110, 111, 112, 113, 114, 115, 116, 117, 118, 119, 120, 121, 122, 65, 66, 67, 68, 69, 70, 71, 72, 73, 74,
 75, 76, 77, 78, 79, 80, 81, 82, 83, 84, 85, 86, 87, 88, 89, 90])]
 M (.int .i64 i1) M2 ∧
 cnd (eqF i1 (Int.ofNat 0)) (K (.int .i64 (Int.ofNat 0)) M2)
 (∃ (i3 : Int),
 ∃ (M4 : Mem),
 Ret Try.prog 87
 [.string p0,
 .string
 (ByteArray.mk
 #[97, 98, 99, 100, 101, 102, 103, 104, 105, 106, 107, 108, 109, 110, 111, 112, 113, 114, 115, 116, 117, 118, 119, 120, 121, 122, 65, 66, 67, 68, 69, 70, 71, 72,
 73, 74, 75, 76, 77, 78, 79, 80, 81, 82, 83, 84, 85, 86, 87, 88, 89, 90, 48, 49, 50, 51, 52, 53, 54, 55, 56, 57, 95])]
 M2 (.int .i64 i3) M4 ∧
 ∃ (s5 : ByteArray),
 sliceA Try.prog M4 9 (.string p0) (some (Value.int .i64 i3)) none none = some (.string s5) ∧
 ∃ (b6 : Bool),
 ∃ (M7 : Mem),
 Ret Try.prog 93 [.string s5, .string (ByteArray.mk #[63])] M4 (.bool b6) M7 ∧
 cnd b6 (K (.int .i64 (wrapF .i64 (Int.add i3 (Int.ofNat 1)))) M7) (K (.int .i64 i3) M7)))) :
 wpRet Try.prog 70 true [] [.string p0] M K := Eq.mpr (by kernel_rfl) h
theorem w37 {p0 : ByteArray} {M : Mem} {K : Value → Mem → Prop} (h : cnd (!eqS p0 (ByteArray.mk #[])) (∃ (i0 : Int), ∃ (M1 : Mem), Ret Try.prog 70 [.string p0] M (.int .i64 i0) M1 ∧ K (.bool (eqF i0 (Int.ofNat (ByteArray.size p0)))) M1)
 (K (.bool false) M)) :
 wpRet Try.prog 37 true [] [.string p0] M K := Eq.mpr (by kernel_rfl) h
theorem w58 {p0 : ByteArray} {M : Mem} {K : Value → Mem → Prop} (h : ∃ (s0 : ByteArray),
 ∃ (b1 : Bool),
 ∃ (M2 : Mem),
 Ret Try.prog 86 [.string p0, .string (ByteArray.mk #[45])] M (.tuple (Array.mk [.string s0, .bool b1])) M2 ∧
 cnd (eqS s0 (ByteArray.mk #[])) (K (.bool false) M2)
 (∃ (i3 : Int),
 ∃ (M4 : Mem),
 Ret Try.prog 87 [.string s0, .string (ByteArray.mk #[48, 49, 50, 51, 52, 53, 54, 55, 56, 57])] M2 (.int .i64 i3) M4 ∧
 cnd (!eqF i3 (Int.ofNat (ByteArray.size s0))) (K (.bool false) M4)
 (∃ (i5 : Int),
 indexA Try.prog 9 (.string s0) (.int .i64 (Int.ofNat 0)) = some (.int .u8 i5) ∧
 cnd (!eqF i5 (Int.ofNat 48)) (K (.bool true) M4) (cnd (eqS s0 (ByteArray.mk #[48])) (K (.bool !b1) M4) (K (.bool false) M4))))) :
 wpRet Try.prog 58 true [] [.string p0] M K := Eq.mpr (by kernel_rfl) h
theorem w86 {p0 p1 : ByteArray} {M : Mem} {K : Value → Mem → Prop} (h : ∃ (s0 : ByteArray),
 ∃ (b1 : Bool),
 ∃ (M2 : Mem),
 Ret Try.prog 102 [.string p0, .string p1] M (.tuple (Array.mk [.string s0, .bool b1])) M2 ∧ K (.tuple (Array.mk [.string s0, .bool b1])) M2) :
 wpRet Try.prog 86 true [] [.string p0, .string p1] M K := Eq.mpr (by kernel_rfl) h
theorem w102 {p0 p1 : ByteArray} {M : Mem} {K : Value → Mem → Prop} (h : ∃ (b0 : Bool),
 ∃ (M1 : Mem),
 Ret Try.prog 104 [.string p0, .string p1] M (.bool b0) M1 ∧
 cnd (!b0) (K (.tuple (Array.mk [.string p0, .bool false])) M1)
 (∃ (s2 : ByteArray),
 sliceA Try.prog M1 9 (.string p0) (some (Value.int .i64 (Int.ofNat (ByteArray.size p1)))) none none = some (.string s2) ∧
 K (.tuple (Array.mk [.string s2, .bool true])) M1)) :
 wpRet Try.prog 102 true [] [.string p0, .string p1] M K := Eq.mpr (by kernel_rfl) h
theorem w93 {p0 p1 : ByteArray} {M : Mem} {K : Value → Mem → Prop} (h : ∃ (b0 : Bool), ∃ (M1 : Mem), Ret Try.prog 104 [.string p0, .string p1] M (.bool b0) M1 ∧ K (.bool b0) M1) :
 wpRet Try.prog 93 true [] [.string p0, .string p1] M K := Eq.mpr (by kernel_rfl) h
theorem w104 {p0 p1 : ByteArray} {M : Mem} {K : Value → Mem → Prop} (h : cnd (leF (Int.ofNat (ByteArray.size p1)) (Int.ofNat (ByteArray.size p0)))
 (∃ (s0 : ByteArray), sliceA Try.prog M 9 (.string p0) none (some (Value.int .i64 (Int.ofNat (ByteArray.size p1)))) none = some (.string s0) ∧ K (.bool (eqS s0 p1)) M)
 (K (.bool false) M)) :
 wpRet Try.prog 104 true [] [.string p0, .string p1] M K := Eq.mpr (by kernel_rfl) h
theorem w16 {p0 : ByteArray} {M : Mem} {K : Value → Mem → Prop} (h : ∃ (b0 : Bool),
 ∃ (M1 : Mem),
 Ret Try.prog 37 [.string p0] M (.bool b0) M1 ∧
 cnd b0
 (∃ (i2 : Int),
 indexA Try.prog 9 (.string p0) (.int .i64 (wrapF .i64 (Int.sub (Int.ofNat (ByteArray.size p0)) (Int.ofNat 1)))) = some (.int .u8 i2) ∧
 cnd (!eqF i2 (Int.ofNat 63))
 (∃ (a3 : Option Addr),
 ∃ (n4 : Nat),
 ∃ (n5 : Nat),
 ∃ (M6 : Mem),
 Ret Try.prog 39 [] M1 (.slice a3 n4 n5) M6 ∧
 ∃ (b7 : Bool), ∃ (M8 : Mem), Ret Try.prog 38 [.slice a3 n4 n5, .string p0] M6 (.bool b7) M8 ∧ K (.bool !b7) M8)
 (K (.bool false) M1))
 (K (.bool false) M1)) :
 wpRet Try.prog 16 true [] [.string p0] M K := Eq.mpr (by kernel_rfl) h
theorem w38 {p0 : Option Addr} {p0n p0c : Nat} {p1 : ByteArray} {M : Mem} {K : Value → Mem → Prop} (h : ∃ (i0 : Int), ∃ (M1 : Mem), Ret Try.prog 71 [.slice p0 p0n p0c, .string p1] M (.int .i64 i0) M1 ∧ K (.bool (leF (Int.ofNat 0) i0)) M1) :
 wpRet Try.prog 38 true [] [.slice p0 p0n p0c, .string p1] M K := Eq.mpr (by kernel_rfl) h
theorem w71 {p0 : Option Addr} {p0n p0c : Nat} {p1 : ByteArray} {M : Mem} {K : Value → Mem → Prop} (h : (∃ (x0 : Nat → Value),
 ∃ (M1 : Mem),
 Lp Try.prog (Env.fn 71) [1, 0, 1, 0]
 (St.mk
 [.slice p0 p0n p0c, .string p1, undef, undef, .int .i64 (Int.ofNat 0), undef,
 .slice p0 p0n p0c, .int .i64 (Int.ofNat p0n), .int .i64 (Int.ofNat 0), undef, undef,
 undef, undef, undef, undef, undef, undef,
 undef, undef]
 [] M false)
 (.exit 0)
 (St.mk
 [.slice p0 p0n p0c, .string p1, undef, undef, x0 4, x0 5, .slice p0 p0n p0c, .int .i64 (Int.ofNat p0n), x0 8,
 x0 9, x0 10, x0 11, x0 12, x0 13, x0 14, x0 15, x0 16, x0 17, x0 18]
 [] M1 false) ∧
 K (.int .i64 (Int.negSucc 0)) M1) ∨
 ∃ (x2 : Nat → Value),
 ∃ (i3 : Int),
 ∃ (M4 : Mem),
 Lp Try.prog (Env.fn 71) [1, 0, 1, 0]
 (St.mk
 [.slice p0 p0n p0c, .string p1, undef, undef, .int .i64 (Int.ofNat 0), undef,
 .slice p0 p0n p0c, .int .i64 (Int.ofNat p0n), .int .i64 (Int.ofNat 0), undef, undef,
 undef, undef, undef, undef, undef, undef,
 undef, undef]
 [] M false)
 .ret
 (St.mk
 [.slice p0 p0n p0c, .string p1, undef, undef, .int .i64 i3, x2 5, .slice p0 p0n p0c,
 .int .i64 (Int.ofNat p0n), x2 8, x2 9, x2 10, x2 11, x2 12, x2 13, x2 14, x2 15, x2 16, x2 17, x2 18]
 [] M4 false) ∧
 K (.int .i64 i3) M4) :
 wpRet Try.prog 71 true ann71 [.slice p0 p0n p0c, .string p1] M K := Eq.mpr (by kernel_rfl) h
theorem wl71_0 {ut0 : Option Addr} {ut0n ut0c : Nat} {ut1 : ByteArray} {uv2 uv3 uv6 : Value} {ut7 : Int} (t8 : Int) (w : Nat → Value) (d : List ADef) (rc : Bool) (M : Mem) (Q : AExit → St → Prop) (h : cnd (!leF ut7 t8)
 (∃ (n0 : Nat),
 ∃ (n1 : Nat),
 idxA Try.prog 53 (.slice ut0 ut0n ut0c) (.int .i64 t8) = some (.pointer (some (.mk n0 n1 none))) ∧
 ∃ (s2 : ByteArray),
 rdVar Try.prog M 9 n0 n1 = some (.string s2) ∧
 cnd (eqS ut1 s2)
 (Q .ret
 (St.mk
 [.slice ut0 ut0n ut0c, .string ut1, uv2, uv3, .int .i64 t8, .int .i64 t8, uv6, .int .i64 ut7, .int .i64 t8,
 .bool true, .int .i64 t8, .string ut1, .slice ut0 ut0n ut0c, .int .i64 t8, .pointer (some (.mk n0 n1 none)),
 .string s2, .bool true, .int .i64 t8, w 18]
 d M rc))
 (Q .normal
 (St.mk
 [.slice ut0 ut0n ut0c, .string ut1, uv2, uv3, w 4, .int .i64 t8, uv6, .int .i64 ut7,
 .int .i64 (wrapF .i64 (Int.add t8 (Int.ofNat 1))), .bool true, .int .i64 t8, .string ut1, .slice ut0 ut0n ut0c,
 .int .i64 t8, .pointer (some (.mk n0 n1 none)), .string s2, .bool false, w 17,
 .int .i64 (wrapF .i64 (Int.add t8 (Int.ofNat 1)))]
 d M rc)))
 (Q (.exit 0)
 (St.mk
 [.slice ut0 ut0n ut0c, .string ut1, uv2, uv3, w 4, w 5, uv6, .int .i64 ut7, .int .i64 t8, .bool false, w 10, w 11, w 12, w 13, w 14, w 15, w 16,
 w 17, w 18]
 d M rc))) :
 wpAt Try.prog (Env.fn 71) true ann71 [1, 0, 1, 0, 0]
 (St.mk
 [.slice ut0 ut0n ut0c, .string ut1, uv2, uv3, w 4, w 5, uv6, .int .i64 ut7, .int .i64 t8, w 9, w 10, w 11, w 12, w 13, w 14, w 15, w 16, w 17, w 18] d M
 rc)
 Q := Eq.mpr (by kernel_rfl) h
def I71_0 (ut0 : Option Addr) (ut0n ut0c : Nat) (ut1 : ByteArray) (uv2 uv3 uv6 : Value) (ut7 : Int) (d : List ADef) (rc : Bool) (Inv : Nat → Int → Mem → Prop) (n : Nat) (s : St) : Prop := ∃ (t8 : Int) (w : Nat → Value) (M : Mem), s = (St.mk [.slice ut0 ut0n ut0c, .string ut1, uv2, uv3, w 4, w 5, uv6, .int .i64 ut7, .int .i64 t8, w 9, w 10, w 11, w 12, w 13, w 14, w 15, w 16, w 17, w 18] d
 M rc) ∧ Inv n t8 M
theorem I71_0.mk {ut0 : Option Addr} {ut0n ut0c : Nat} {ut1 : ByteArray} {uv2 uv3 uv6 : Value} {ut7 : Int} {d : List ADef} {rc : Bool} {Inv : Nat → Int → Mem → Prop} {n : Nat} {v4 v5 : Value} {t8 : Int} {v9 v10 v11 v12 v13 v14 v15 v16 v17 v18 : Value} {M : Mem} (hI : Inv n t8 M) : I71_0 ut0 ut0n ut0c ut1 uv2 uv3 uv6 ut7 d rc Inv n (St.mk [.slice ut0 ut0n ut0c, .string ut1, uv2, uv3, v4, v5, uv6, .int .i64 ut7, .int .i64 t8, v9, v10, v11, v12, v13, v14, v15, v16, v17, v18] d M rc) := ⟨_, (fun i => List.getD ([.slice ut0 ut0n ut0c, .string ut1, uv2, uv3, v4, v5, uv6, .int .i64 ut7, .int .i64 t8, v9, v10, v11, v12, v13, v14, v15, v16, v17, v18]) i undef), _, rfl, hI⟩
def X71_0 (ut0 : Option Addr) (ut0n ut0c : Nat) (ut1 : ByteArray) (uv2 uv3 uv6 : Value) (ut7 : Int) (d : List ADef) (rc : Bool) (R0 : Mem → Prop) (R1 : Int → Mem → Prop) (e : AExit) (s : St) : Prop := (e = (.exit 0) ∧ ∃ (w : Nat → Value) (M : Mem), s = (St.mk [.slice ut0 ut0n ut0c, .string ut1, uv2, uv3, w 4, w 5, uv6, .int .i64 ut7, w 8, w 9, w 10, w 11, w 12, w 13, w 14, w 15, w 16, w 17, w 18] d M rc) ∧ R0 M) ∨ (e = .ret ∧ ∃ (ot4 : Int) (w : Nat → Value) (M : Mem), s = (St.mk [.slice ut0 ut0n ut0c, .string ut1, uv2, uv3, .int .i64 ot4, w 5, uv6, .int .i64 ut7, w 8, w 9, w 10, w 11, w 12, w 13, w 14, w 15, w 16, w 17, w 18]
 d M rc) ∧ R1 ot4 M)
theorem X71_0.mk0 {ut0 : Option Addr} {ut0n ut0c : Nat} {ut1 : ByteArray} {uv2 uv3 uv6 : Value} {ut7 : Int} {d : List ADef} {rc : Bool} {R0 : Mem → Prop} {R1 : Int → Mem → Prop} {ov4 ov5 ov8 ov9 ov10 ov11 ov12 ov13 ov14 ov15 ov16 ov17 ov18 : Value} {M : Mem} (hI : R0 M) : X71_0 ut0 ut0n ut0c ut1 uv2 uv3 uv6 ut7 d rc R0 R1 (.exit 0) (St.mk [.slice ut0 ut0n ut0c, .string ut1, uv2, uv3, ov4, ov5, uv6, .int .i64 ut7, ov8, ov9, ov10, ov11, ov12, ov13, ov14, ov15, ov16, ov17, ov18] d M rc) := (.inl ⟨rfl, (fun i => List.getD ([.slice ut0 ut0n ut0c, .string ut1, uv2, uv3, ov4, ov5, uv6, .int .i64 ut7, ov8, ov9, ov10, ov11, ov12, ov13, ov14, ov15, ov16, ov17, ov18]) i undef), _, rfl, hI⟩)
theorem X71_0.mk1 {ut0 : Option Addr} {ut0n ut0c : Nat} {ut1 : ByteArray} {uv2 uv3 uv6 : Value} {ut7 : Int} {d : List ADef} {rc : Bool} {R0 : Mem → Prop} {R1 : Int → Mem → Prop} {ot4 : Int} {ov5 ov8 ov9 ov10 ov11 ov12 ov13 ov14 ov15 ov16 ov17 ov18 : Value} {M : Mem} (hI : R1 ot4 M) : X71_0 ut0 ut0n ut0c ut1 uv2 uv3 uv6 ut7 d rc R0 R1 .ret (St.mk [.slice ut0 ut0n ut0c, .string ut1, uv2, uv3, .int .i64 ot4, ov5, uv6, .int .i64 ut7, ov8, ov9, ov10, ov11, ov12, ov13, ov14, ov15, ov16, ov17, ov18]
 d M rc) := (.inr ⟨rfl, _, (fun i => List.getD ([.slice ut0 ut0n ut0c, .string ut1, uv2, uv3, .int .i64 ot4, ov5, uv6, .int .i64 ut7, ov8, ov9, ov10, ov11, ov12, ov13, ov14, ov15, ov16, ov17, ov18]) i undef), _, rfl, hI⟩)
theorem loop71_0 {ut0 : Option Addr} {ut0n ut0c : Nat} {ut1 : ByteArray} {uv2 uv3 uv6 : Value} {ut7 : Int} {d : List ADef} {rc : Bool} (Inv : Nat → Int → Mem → Prop) (R0 : Mem → Prop) (R1 : Int → Mem → Prop)
 (step : ∀ (n : Nat) (t8 : Int) (M : Mem), Inv n t8 M →
 cnd (!leF ut7 t8)
 (∃ (n0 : Nat), ∃ (n1 : Nat), (idxA Try.prog 53 (.slice ut0 ut0n ut0c) (.int .i64 t8) = some (.pointer (some (.mk n0 n1 none)))) ∧ ∃ (s2 : ByteArray), (rdVar Try.prog M 9 n0 n1 = some (.string s2)) ∧ cnd (eqS ut1 s2)
 (R1 (t8) (M))
 (∃ m, m < n ∧ Inv m (wrapF .i64 (Int.add t8 (Int.ofNat 1))) (M)))
 (R0 (M)))
 {n : Nat} {v4 v5 : Value} {t8 : Int} {v9 v10 v11 v12 v13 v14 v15 v16 v17 v18 : Value} {M : Mem} (h0 : Inv n t8 M) :
 (∃ (w : Nat → Value) (M' : Mem), Lp Try.prog (Env.fn 71) [1, 0, 1, 0] (St.mk [.slice ut0 ut0n ut0c, .string ut1, uv2, uv3, v4, v5, uv6, .int .i64 ut7, .int .i64 t8, v9, v10, v11, v12, v13, v14, v15, v16, v17, v18] d M rc) (.exit 0) (St.mk [.slice ut0 ut0n ut0c, .string ut1, uv2, uv3, w 4, w 5, uv6, .int .i64 ut7, w 8, w 9, w 10, w 11, w 12, w 13, w 14, w 15, w 16, w 17, w 18] d M' rc) ∧ R0 M') ∨ (∃ (w : Nat → Value) (ot4 : Int) (M' : Mem), Lp Try.prog (Env.fn 71) [1, 0, 1, 0] (St.mk [.slice ut0 ut0n ut0c, .string ut1, uv2, uv3, v4, v5, uv6, .int .i64 ut7, .int .i64 t8, v9, v10, v11, v12, v13, v14, v15, v16, v17, v18] d M rc) .ret (St.mk [.slice ut0 ut0n ut0c, .string ut1, uv2, uv3, .int .i64 ot4, w 5, uv6, .int .i64 ut7, w 8, w 9, w 10, w 11, w 12, w 13, w 14, w 15, w 16, w 17, w 18] d M' rc) ∧ R1 ot4 M') := by
 have mono : ∀ (n : Nat) (t8 : Int) (w : Nat → Value) (M : Mem) (Q : AExit → St → Prop) (hN : ∀ {m : Nat} {v4 v5 : Value} {t8 : Int} {v9 v10 v11 v12 v13 v14 v15 v16 v17 v18 : Value} {M : Mem}, m < n → Inv m t8 M → Q .normal (St.mk [.slice ut0 ut0n ut0c, .string ut1, uv2, uv3, v4, v5, uv6, .int .i64 ut7, .int .i64 t8, v9, v10, v11, v12, v13, v14, v15, v16, v17, v18] d M rc)) (hE0 : ∀ {ov4 ov5 ov8 ov9 ov10 ov11 ov12 ov13 ov14 ov15 ov16 ov17 ov18 : Value} {M : Mem}, R0 M → Q (.exit 0) (St.mk [.slice ut0 ut0n ut0c, .string ut1, uv2, uv3, ov4, ov5, uv6, .int .i64 ut7, ov8, ov9, ov10, ov11, ov12, ov13, ov14, ov15, ov16, ov17, ov18] d M rc)) (hE1 : ∀ {ot4 : Int} {ov5 ov8 ov9 ov10 ov11 ov12 ov13 ov14 ov15 ov16 ov17 ov18 : Value} {M : Mem}, R1 ot4 M → Q .ret (St.mk [.slice ut0 ut0n ut0c, .string ut1, uv2, uv3, .int .i64 ot4, ov5, uv6, .int .i64 ut7, ov8, ov9, ov10, ov11, ov12, ov13, ov14, ov15, ov16, ov17, ov18]
 d M rc)) , Inv n t8 M → wpAt Try.prog (Env.fn 71) true ann71 [1, 0, 1, 0, 0] (St.mk [.slice ut0 ut0n ut0c, .string ut1, uv2, uv3, w 4, w 5, uv6, .int .i64 ut7, .int .i64 t8, w 9, w 10, w 11, w 12, w 13, w 14, w 15, w 16, w 17, w 18] d
 M rc) Q :=
 fun n t8 w M Q hN hE0 hE1 hI => wl71_0 _ w _ _ _ Q ((cnd_mono (fun ⟨n0, h⟩ => ⟨n0, (fun ⟨n1, h⟩ => ⟨n1, (fun ⟨a, h⟩ => ⟨a, (fun ⟨s2, h⟩ => ⟨s2, (fun ⟨a, h⟩ => ⟨a, (cnd_mono hE1 (fun ⟨_, hm, hi⟩ => hN hm hi)) h⟩) h⟩) h⟩) h⟩) h⟩) hE0) (step n t8 M hI))
 have key := loop_lp (P := Try.prog) (E := Env.fn 71) (sym := true) (ann := ann71) (p := [1, 0, 1, 0]) (body := stepC (codeOf Try.prog 71 [1, 0, 1, 0]) 0) (by kernel_rfl) (I71_0 ut0 ut0n ut0c ut1 uv2 uv3 uv6 ut7 d rc Inv) (X71_0 ut0 ut0n ut0c ut1 uv2 uv3 uv6 ut7 d rc R0 R1) (by
 rintro n s ⟨_, _, _, rfl, hI⟩
 exact mono n _ _ _ _ (fun hm hi => ⟨_, hm, .mk hi⟩) (fun hr => .mk0 hr) (fun hr => .mk1 hr) hI)
 obtain ⟨e, s', h1, hX⟩ := key n _ (.mk h0)
 rcases hX with ⟨rfl, _, _, rfl, h2⟩ | ⟨rfl, _, _, _, rfl, h2⟩
 · exact (.inl ⟨_, _, h1, h2⟩)
 · exact (.inr ⟨_, _, _, h1, h2⟩)
theorem w39 {M : Mem} {K : Value → Mem → Prop} (h : K (.slice (some (.mk (List.length M) 0 none)) 18 18)
 (M ++
 [AObj.cells
 [.string (ByteArray.mk #[100, 101, 102]), .string (ByteArray.mk #[102, 110]), .string (ByteArray.mk #[108, 101, 116]), .string (ByteArray.mk #[105, 102]),
 .string (ByteArray.mk #[97, 115, 115, 101, 114, 116]), .string (ByteArray.mk #[100, 105, 99, 116]), .string (ByteArray.mk #[99, 97, 108, 108]),
 .string (ByteArray.mk #[110, 111, 116]), .string (ByteArray.mk #[104, 97, 115]), .string (ByteArray.mk #[103, 101, 116]),
 .string (ByteArray.mk #[115, 101, 116]), .string (ByteArray.mk #[97, 110, 100]), .string (ByteArray.mk #[111, 114]), .string (ByteArray.mk #[105, 115]),
 .string (ByteArray.mk #[119, 104, 101, 114, 101]), .string (ByteArray.mk #[116, 114, 117, 101]), .string (ByteArray.mk #[102, 97, 108, 115, 101]),
 .string (ByteArray.mk #[110, 117, 108, 108])]
 1 Mode.live])) :
 wpRet Try.prog 39 true [] [] M K := Eq.mpr (by kernel_rfl) h
theorem w41 {p0 : ByteArray} {p1 : Option Addr} {p1n p1c : Nat} {M : Mem} {K : Value → Mem → Prop} (h : (∃ (x0 : Nat → Value),
 ∃ (M1 : Mem),
 Lp Try.prog (Env.fn 41) [1, 0, 1, 0]
 (St.mk
 [.string p0, .slice p1 p1n p1c, undef, undef, .bool false, .int .i64 (Int.ofNat 0), undef,
 undef, undef, undef, undef, undef, undef,
 undef, undef, undef, undef, undef]
 [] M false)
 (.exit 0)
 (St.mk
 [.string p0, .slice p1 p1n p1c, undef, undef, x0 4, x0 5, x0 6, x0 7, x0 8, x0 9, x0 10, x0 11, x0 12, x0 13, x0 14, x0 15,
 x0 16, x0 17]
 [] M1 false) ∧
 K (.bool false) M1) ∨
 ∃ (x2 : Nat → Value),
 ∃ (b3 : Bool),
 ∃ (M4 : Mem),
 Lp Try.prog (Env.fn 41) [1, 0, 1, 0]
 (St.mk
 [.string p0, .slice p1 p1n p1c, undef, undef, .bool false, .int .i64 (Int.ofNat 0),
 undef, undef, undef, undef, undef, undef,
 undef, undef, undef, undef, undef, undef]
 [] M false)
 .ret
 (St.mk
 [.string p0, .slice p1 p1n p1c, undef, undef, .bool b3, x2 5, x2 6, x2 7, x2 8, x2 9, x2 10, x2 11, x2 12, x2 13, x2 14,
 x2 15, x2 16, x2 17]
 [] M4 false) ∧
 K (.bool b3) M4) :
 wpRet Try.prog 41 true ann41 [.string p0, .slice p1 p1n p1c] M K := Eq.mpr (by kernel_rfl) h
theorem wl41_0 {ut0 : ByteArray} {ut1 : Option Addr} {ut1n ut1c : Nat} {uv2 uv3 : Value} (t5 : Int) (w : Nat → Value) (d : List ADef) (rc : Bool) (M : Mem) (Q : AExit → St → Prop) (h : cnd (!leF (Int.ofNat ut1n) t5)
 (∃ (n0 : Nat),
 ∃ (n1 : Nat),
 idxA Try.prog 53 (.slice ut1 ut1n ut1c) (.int .i64 t5) = some (.pointer (some (.mk n0 n1 none))) ∧
 ∃ (s2 : ByteArray),
 rdVar Try.prog M 9 n0 n1 = some (.string s2) ∧
 cnd (eqS s2 ut0)
 (Q .ret
 (St.mk
 [.string ut0, .slice ut1 ut1n ut1c, uv2, uv3, .bool true, .int .i64 t5, .int .i64 t5, .slice ut1 ut1n ut1c,
 .int .i64 (Int.ofNat ut1n), .bool true, w 10, w 11, .slice ut1 ut1n ut1c, .int .i64 t5, .pointer (some (.mk n0 n1 none)),
 .string s2, .string ut0, .bool true]
 d M rc))
 (Q .normal
 (St.mk
 [.string ut0, .slice ut1 ut1n ut1c, uv2, uv3, w 4, .int .i64 (wrapF .i64 (Int.add t5 (Int.ofNat 1))), .int .i64 t5,
 .slice ut1 ut1n ut1c, .int .i64 (Int.ofNat ut1n), .bool true, .int .i64 t5,
 .int .i64 (wrapF .i64 (Int.add t5 (Int.ofNat 1))), .slice ut1 ut1n ut1c, .int .i64 t5, .pointer (some (.mk n0 n1 none)),
 .string s2, .string ut0, .bool false]
 d M rc)))
 (Q (.exit 0)
 (St.mk
 [.string ut0, .slice ut1 ut1n ut1c, uv2, uv3, w 4, .int .i64 t5, .int .i64 t5, .slice ut1 ut1n ut1c, .int .i64 (Int.ofNat ut1n),
 .bool false, w 10, w 11, w 12, w 13, w 14, w 15, w 16, w 17]
 d M rc))) :
 wpAt Try.prog (Env.fn 41) true ann41 [1, 0, 1, 0, 0]
 (St.mk [.string ut0, .slice ut1 ut1n ut1c, uv2, uv3, w 4, .int .i64 t5, w 6, w 7, w 8, w 9, w 10, w 11, w 12, w 13, w 14, w 15, w 16, w 17] d M rc) Q := Eq.mpr (by kernel_rfl) h
def I41_0 (ut0 : ByteArray) (ut1 : Option Addr) (ut1n ut1c : Nat) (uv2 uv3 : Value) (d : List ADef) (rc : Bool) (Inv : Nat → Int → Mem → Prop) (n : Nat) (s : St) : Prop := ∃ (t5 : Int) (w : Nat → Value) (M : Mem), s = (St.mk [.string ut0, .slice ut1 ut1n ut1c, uv2, uv3, w 4, .int .i64 t5, w 6, w 7, w 8, w 9, w 10, w 11, w 12, w 13, w 14, w 15, w 16, w 17] d M rc) ∧ Inv n t5 M
theorem I41_0.mk {ut0 : ByteArray} {ut1 : Option Addr} {ut1n ut1c : Nat} {uv2 uv3 : Value} {d : List ADef} {rc : Bool} {Inv : Nat → Int → Mem → Prop} {n : Nat} {v4 : Value} {t5 : Int} {v6 v7 v8 v9 v10 v11 v12 v13 v14 v15 v16 v17 : Value} {M : Mem} (hI : Inv n t5 M) : I41_0 ut0 ut1 ut1n ut1c uv2 uv3 d rc Inv n (St.mk [.string ut0, .slice ut1 ut1n ut1c, uv2, uv3, v4, .int .i64 t5, v6, v7, v8, v9, v10, v11, v12, v13, v14, v15, v16, v17] d M rc) := ⟨_, (fun i => List.getD ([.string ut0, .slice ut1 ut1n ut1c, uv2, uv3, v4, .int .i64 t5, v6, v7, v8, v9, v10, v11, v12, v13, v14, v15, v16, v17]) i undef), _, rfl, hI⟩
def X41_0 (ut0 : ByteArray) (ut1 : Option Addr) (ut1n ut1c : Nat) (uv2 uv3 : Value) (d : List ADef) (rc : Bool) (R0 : Mem → Prop) (R1 : Bool → Mem → Prop) (e : AExit) (s : St) : Prop := (e = (.exit 0) ∧ ∃ (w : Nat → Value) (M : Mem), s = (St.mk [.string ut0, .slice ut1 ut1n ut1c, uv2, uv3, w 4, w 5, w 6, w 7, w 8, w 9, w 10, w 11, w 12, w 13, w 14, w 15, w 16, w 17] d M rc) ∧ R0 M) ∨ (e = .ret ∧ ∃ (ot4 : Bool) (w : Nat → Value) (M : Mem), s = (St.mk [.string ut0, .slice ut1 ut1n ut1c, uv2, uv3, .bool ot4, w 5, w 6, w 7, w 8, w 9, w 10, w 11, w 12, w 13, w 14, w 15, w 16, w 17] d M rc) ∧ R1 ot4 M)
theorem X41_0.mk0 {ut0 : ByteArray} {ut1 : Option Addr} {ut1n ut1c : Nat} {uv2 uv3 : Value} {d : List ADef} {rc : Bool} {R0 : Mem → Prop} {R1 : Bool → Mem → Prop} {ov4 ov5 ov6 ov7 ov8 ov9 ov10 ov11 ov12 ov13 ov14 ov15 ov16 ov17 : Value} {M : Mem} (hI : R0 M) : X41_0 ut0 ut1 ut1n ut1c uv2 uv3 d rc R0 R1 (.exit 0) (St.mk [.string ut0, .slice ut1 ut1n ut1c, uv2, uv3, ov4, ov5, ov6, ov7, ov8, ov9, ov10, ov11, ov12, ov13, ov14, ov15, ov16, ov17] d M rc) := (.inl ⟨rfl, (fun i => List.getD ([.string ut0, .slice ut1 ut1n ut1c, uv2, uv3, ov4, ov5, ov6, ov7, ov8, ov9, ov10, ov11, ov12, ov13, ov14, ov15, ov16, ov17]) i undef), _, rfl, hI⟩)
theorem X41_0.mk1 {ut0 : ByteArray} {ut1 : Option Addr} {ut1n ut1c : Nat} {uv2 uv3 : Value} {d : List ADef} {rc : Bool} {R0 : Mem → Prop} {R1 : Bool → Mem → Prop} {ot4 : Bool} {ov5 ov6 ov7 ov8 ov9 ov10 ov11 ov12 ov13 ov14 ov15 ov16 ov17 : Value} {M : Mem} (hI : R1 ot4 M) : X41_0 ut0 ut1 ut1n ut1c uv2 uv3 d rc R0 R1 .ret (St.mk [.string ut0, .slice ut1 ut1n ut1c, uv2, uv3, .bool ot4, ov5, ov6, ov7, ov8, ov9, ov10, ov11, ov12, ov13, ov14, ov15, ov16, ov17] d M rc) := (.inr ⟨rfl, _, (fun i => List.getD ([.string ut0, .slice ut1 ut1n ut1c, uv2, uv3, .bool ot4, ov5, ov6, ov7, ov8, ov9, ov10, ov11, ov12, ov13, ov14, ov15, ov16, ov17]) i undef), _, rfl, hI⟩)
theorem loop41_0 {ut0 : ByteArray} {ut1 : Option Addr} {ut1n ut1c : Nat} {uv2 uv3 : Value} {d : List ADef} {rc : Bool} (Inv : Nat → Int → Mem → Prop) (R0 : Mem → Prop) (R1 : Bool → Mem → Prop)
 (step : ∀ (n : Nat) (t5 : Int) (M : Mem), Inv n t5 M →
 cnd (!leF (Int.ofNat ut1n) t5)
 (∃ (n0 : Nat), ∃ (n1 : Nat), (idxA Try.prog 53 (.slice ut1 ut1n ut1c) (.int .i64 t5) = some (.pointer (some (.mk n0 n1 none)))) ∧ ∃ (s2 : ByteArray), (rdVar Try.prog M 9 n0 n1 = some (.string s2)) ∧ cnd (eqS s2 ut0)
 (R1 (true) (M))
 (∃ m, m < n ∧ Inv m (wrapF .i64 (Int.add t5 (Int.ofNat 1))) (M)))
 (R0 (M)))
 {n : Nat} {v4 : Value} {t5 : Int} {v6 v7 v8 v9 v10 v11 v12 v13 v14 v15 v16 v17 : Value} {M : Mem} (h0 : Inv n t5 M) :
 (∃ (w : Nat → Value) (M' : Mem), Lp Try.prog (Env.fn 41) [1, 0, 1, 0] (St.mk [.string ut0, .slice ut1 ut1n ut1c, uv2, uv3, v4, .int .i64 t5, v6, v7, v8, v9, v10, v11, v12, v13, v14, v15, v16, v17] d M rc) (.exit 0) (St.mk [.string ut0, .slice ut1 ut1n ut1c, uv2, uv3, w 4, w 5, w 6, w 7, w 8, w 9, w 10, w 11, w 12, w 13, w 14, w 15, w 16, w 17] d M' rc) ∧ R0 M') ∨ (∃ (w : Nat → Value) (ot4 : Bool) (M' : Mem), Lp Try.prog (Env.fn 41) [1, 0, 1, 0] (St.mk [.string ut0, .slice ut1 ut1n ut1c, uv2, uv3, v4, .int .i64 t5, v6, v7, v8, v9, v10, v11, v12, v13, v14, v15, v16, v17] d M rc) .ret (St.mk [.string ut0, .slice ut1 ut1n ut1c, uv2, uv3, .bool ot4, w 5, w 6, w 7, w 8, w 9, w 10, w 11, w 12, w 13, w 14, w 15, w 16, w 17] d M' rc) ∧ R1 ot4 M') := by
 have mono : ∀ (n : Nat) (t5 : Int) (w : Nat → Value) (M : Mem) (Q : AExit → St → Prop) (hN : ∀ {m : Nat} {v4 : Value} {t5 : Int} {v6 v7 v8 v9 v10 v11 v12 v13 v14 v15 v16 v17 : Value} {M : Mem}, m < n → Inv m t5 M → Q .normal (St.mk [.string ut0, .slice ut1 ut1n ut1c, uv2, uv3, v4, .int .i64 t5, v6, v7, v8, v9, v10, v11, v12, v13, v14, v15, v16, v17] d M rc)) (hE0 : ∀ {ov4 ov5 ov6 ov7 ov8 ov9 ov10 ov11 ov12 ov13 ov14 ov15 ov16 ov17 : Value} {M : Mem}, R0 M → Q (.exit 0) (St.mk [.string ut0, .slice ut1 ut1n ut1c, uv2, uv3, ov4, ov5, ov6, ov7, ov8, ov9, ov10, ov11, ov12, ov13, ov14, ov15, ov16, ov17] d M rc)) (hE1 : ∀ {ot4 : Bool} {ov5 ov6 ov7 ov8 ov9 ov10 ov11 ov12 ov13 ov14 ov15 ov16 ov17 : Value} {M : Mem}, R1 ot4 M → Q .ret (St.mk [.string ut0, .slice ut1 ut1n ut1c, uv2, uv3, .bool ot4, ov5, ov6, ov7, ov8, ov9, ov10, ov11, ov12, ov13, ov14, ov15, ov16, ov17] d M rc)) , Inv n t5 M → wpAt Try.prog (Env.fn 41) true ann41 [1, 0, 1, 0, 0] (St.mk [.string ut0, .slice ut1 ut1n ut1c, uv2, uv3, w 4, .int .i64 t5, w 6, w 7, w 8, w 9, w 10, w 11, w 12, w 13, w 14, w 15, w 16, w 17] d M rc) Q :=
 fun n t5 w M Q hN hE0 hE1 hI => wl41_0 _ w _ _ _ Q ((cnd_mono (fun ⟨n0, h⟩ => ⟨n0, (fun ⟨n1, h⟩ => ⟨n1, (fun ⟨a, h⟩ => ⟨a, (fun ⟨s2, h⟩ => ⟨s2, (fun ⟨a, h⟩ => ⟨a, (cnd_mono hE1 (fun ⟨_, hm, hi⟩ => hN hm hi)) h⟩) h⟩) h⟩) h⟩) h⟩) hE0) (step n t5 M hI))
 have key := loop_lp (P := Try.prog) (E := Env.fn 41) (sym := true) (ann := ann41) (p := [1, 0, 1, 0]) (body := stepC (codeOf Try.prog 41 [1, 0, 1, 0]) 0) (by kernel_rfl) (I41_0 ut0 ut1 ut1n ut1c uv2 uv3 d rc Inv) (X41_0 ut0 ut1 ut1n ut1c uv2 uv3 d rc R0 R1) (by
 rintro n s ⟨_, _, _, rfl, hI⟩
 exact mono n _ _ _ _ (fun hm hi => ⟨_, hm, .mk hi⟩) (fun hr => .mk0 hr) (fun hr => .mk1 hr) hI)
 obtain ⟨e, s', h1, hX⟩ := key n _ (.mk h0)
 rcases hX with ⟨rfl, _, _, rfl, h2⟩ | ⟨rfl, _, _, _, rfl, h2⟩
 · exact (.inl ⟨_, _, h1, h2⟩)
 · exact (.inr ⟨_, _, _, h1, h2⟩)
theorem w17 {p0 : ByteArray} {M : Mem} {K : Value → Mem → Prop} (h : ∃ (b0 : Bool),
 ∃ (M1 : Mem),
 Ret Try.prog 40 [.string p0]
 (M ++
 [AObj.cells
 [.string (ByteArray.mk #[100, 101, 102]), .string (ByteArray.mk #[102, 110]), .string (ByteArray.mk #[108, 101, 116]), .string (ByteArray.mk #[105, 102]),
 .string (ByteArray.mk #[97, 115, 115, 101, 114, 116]), .string (ByteArray.mk #[100, 105, 99, 116]), .string (ByteArray.mk #[99, 97, 108, 108]),
 .string (ByteArray.mk #[110, 111, 116]), .string (ByteArray.mk #[104, 97, 115]), .string (ByteArray.mk #[103, 101, 116]),
 .string (ByteArray.mk #[115, 101, 116]), .string (ByteArray.mk #[97, 110, 100]), .string (ByteArray.mk #[111, 114]), .string (ByteArray.mk #[105, 115]),
 .string (ByteArray.mk #[119, 104, 101, 114, 101]), .string (ByteArray.mk #[116, 114, 117, 101]), .string (ByteArray.mk #[102, 97, 108, 115, 101]),
 .string (ByteArray.mk #[110, 117, 108, 108])]
 1 Mode.live])
 (.bool b0) M1 ∧
 cnd b0
 (∃ (i2 : Int),
 indexA Try.prog 9 (.string p0) (.int .i64 (wrapF .i64 (Int.sub (Int.ofNat (ByteArray.size p0)) (Int.ofNat 1)))) = some (.int .u8 i2) ∧
 cnd (!eqF i2 (Int.ofNat 63))
 (∃ (b3 : Bool), ∃ (M4 : Mem), Ret Try.prog 41 [.string p0, .slice (some (.mk (List.length M) 0 none)) 18 18] M1 (.bool b3) M4 ∧ K (.bool !b3) M4)
 (K (.bool false) M1))
 (K (.bool false) M1)) :
 wpRet Try.prog 17 true [] [.string p0] M K := Eq.mpr (by kernel_rfl) h
theorem w40 {p0 : ByteArray} {M : Mem} {K : Value → Mem → Prop} (h : cnd (!eqS p0 (ByteArray.mk #[]))
 (∃ (i0 : Int),
 ∃ (M1 : Mem), Ret Try.prog 72 [.string p0, .int .i64 (Int.ofNat 0)] M (.int .i64 i0) M1 ∧ K (.bool (eqF i0 (Int.ofNat (ByteArray.size p0)))) M1)
 (K (.bool false) M)) :
 wpRet Try.prog 40 true [] [.string p0] M K := Eq.mpr (by kernel_rfl) h
theorem w72 {p0 : ByteArray} {p1 : Int} {M : Mem} {K : Value → Mem → Prop} (h : cnd (leF (Int.ofNat (ByteArray.size p0)) p1) (K (.int .i64 (Int.ofNat 0)) M)
 (∃ (i0 : Int),
 indexA Try.prog 9 (.string p0) (.int .i64 p1) = some (.int .u8 i0) ∧
 ∃ (b1 : Bool),
 ∃ (M2 : Mem),
 Ret Try.prog 94 [.int .u8 i0] M (.bool b1) M2 ∧
 cnd (!b1) (K (.int .i64 (Int.ofNat 0)) M2)
 (∃ (x3 : Nat → Value),
 ∃ (i4 : Int),
 ∃ (M5 : Mem),
 Lp Try.prog (Env.fn 72) [1, 1, 1, 0, 0]
 (St.mk
 [.string p0, .int .i64 p1, undef, undef, .int .i64 (Int.ofNat 0),
 .int .i64 (wrapF .i64 (Int.add p1 (Int.ofNat 1))), .int .i64 p1, .string p0,
 .int .i64 (Int.ofNat (ByteArray.size p0)), .bool (leF (Int.ofNat (ByteArray.size p0)) p1), .bool false, .string p0,
 .int .i64 p1, .int .u8 i0, .bool b1, .bool !b1, .bool false, .int .i64 p1,
 .int .i64 (wrapF .i64 (Int.add p1 (Int.ofNat 1))), undef, undef, undef,
 undef, undef, undef, undef, undef, undef,
 undef, undef, undef, undef, undef, undef,
 undef, undef, undef, undef, undef, undef,
 undef, undef, undef, undef, undef, undef,
 undef, undef, undef, undef, undef, undef,
 undef, undef, undef, undef, undef, undef]
 [] M2 false)
 (.exit 0)
 (St.mk
 [.string p0, .int .i64 p1, undef, undef, .int .i64 (Int.ofNat 0), .int .i64 i4,
 .int .i64 p1, .string p0, .int .i64 (Int.ofNat (ByteArray.size p0)), .bool (leF (Int.ofNat (ByteArray.size p0)) p1),
 .bool false, .string p0, .int .i64 p1, .int .u8 i0, .bool b1, .bool !b1, .bool false, .int .i64 p1,
 .int .i64 (wrapF .i64 (Int.add p1 (Int.ofNat 1))), x3 19, x3 20, x3 21, x3 22, x3 23, x3 24, x3 25, x3 26, x3 27, x3 28, x3 29, x3 30, x3 31,
 x3 32, x3 33, x3 34, x3 35, x3 36, x3 37, x3 38, x3 39, x3 40, x3 41, x3 42, undef, undef, undef,
 undef, undef, undef, undef, undef, undef,
 undef, undef, undef, undef, undef, undef]
 [] M5 false) ∧
 cnd (!leF (Int.ofNat (ByteArray.size p0)) i4)
 (∃ (i6 : Int),
 indexA Try.prog 9 (.string p0) (.int .i64 i4) = some (.int .u8 i6) ∧
 cnd (eqF i6 (Int.ofNat 63)) (K (.int .i64 (wrapF .i64 (Int.sub (wrapF .i64 (Int.add i4 (Int.ofNat 1))) p1))) M5)
 (K (.int .i64 (wrapF .i64 (Int.sub i4 p1))) M5))
 (K (.int .i64 (wrapF .i64 (Int.sub i4 p1))) M5)))) :
 wpRet Try.prog 72 true ann72 [.string p0, .int .i64 p1] M K := Eq.mpr (by kernel_rfl) h
theorem wl72_0 {ut0 : ByteArray} {ut1 : Int} {uv2 uv3 uv4 uv6 uv7 uv8 uv9 uv10 uv11 uv12 uv13 uv14 uv15 uv16 uv17 uv18 uv43 uv44 uv45 uv46 uv47 uv48 uv49 uv50 uv51 uv52 uv53 uv54 uv55 uv56 uv57 : Value} (t5 : Int) (w : Nat → Value) (d : List ADef) (rc : Bool) (M : Mem) (Q : AExit → St → Prop) (h : cnd (!leF (Int.ofNat (ByteArray.size ut0)) t5)
 (∃ (i0 : Int),
 indexA Try.prog 9 (.string ut0) (.int .i64 t5) = some (.int .u8 i0) ∧
 ∃ (b1 : Bool),
 ∃ (M2 : Mem),
 Ret Try.prog 94 [.int .u8 i0] M (.bool b1) M2 ∧
 cnd b1
 (Q .normal
 (St.mk
 [.string ut0, .int .i64 ut1, uv2, uv3, uv4, .int .i64 (wrapF .i64 (Int.add t5 (Int.ofNat 1))), uv6, uv7, uv8, uv9, uv10, uv11, uv12,
 uv13, uv14, uv15, uv16, uv17, uv18, .int .i64 t5, .string ut0, .int .i64 (Int.ofNat (ByteArray.size ut0)),
 .bool !leF (Int.ofNat (ByteArray.size ut0)) t5, .bool true, .string ut0, .int .i64 t5, .int .u8 i0, .bool b1, .bool true,
 undef, undef, undef, undef, .bool true, .bool true, undef,
 undef, undef, undef, .bool true, .bool true, .int .i64 t5,
 .int .i64 (wrapF .i64 (Int.add t5 (Int.ofNat 1))), uv43, uv44, uv45, uv46, uv47, uv48, uv49, uv50, uv51, uv52, uv53, uv54, uv55, uv56, uv57]
 d M2 rc))
 (∃ (i3 : Int),
 indexA Try.prog 9 (.string ut0) (.int .i64 t5) = some (.int .u8 i3) ∧
 ∃ (b4 : Bool),
 ∃ (M5 : Mem),
 Ret Try.prog 95 [.int .u8 i3] M2 (.bool b4) M5 ∧
 cnd b4
 (Q .normal
 (St.mk
 [.string ut0, .int .i64 ut1, uv2, uv3, uv4, .int .i64 (wrapF .i64 (Int.add t5 (Int.ofNat 1))), uv6, uv7, uv8, uv9, uv10,
 uv11, uv12, uv13, uv14, uv15, uv16, uv17, uv18, .int .i64 t5, .string ut0, .int .i64 (Int.ofNat (ByteArray.size ut0)),
 .bool !leF (Int.ofNat (ByteArray.size ut0)) t5, .bool true, .string ut0, .int .i64 t5, .int .u8 i0, .bool b1,
 .bool false, .string ut0, .int .i64 t5, .int .u8 i3, .bool b4, .bool b4, .bool true,
 undef, undef, undef, undef, .bool true, .bool true,
 .int .i64 t5, .int .i64 (wrapF .i64 (Int.add t5 (Int.ofNat 1))), uv43, uv44, uv45, uv46, uv47, uv48, uv49, uv50, uv51, uv52,
 uv53, uv54, uv55, uv56, uv57]
 d M5 rc))
 (∃ (i6 : Int),
 indexA Try.prog 9 (.string ut0) (.int .i64 t5) = some (.int .u8 i6) ∧
 cnd (eqF i6 (Int.ofNat 95))
 (Q .normal
 (St.mk
 [.string ut0, .int .i64 ut1, uv2, uv3, uv4, .int .i64 (wrapF .i64 (Int.add t5 (Int.ofNat 1))), uv6, uv7, uv8, uv9,
 uv10, uv11, uv12, uv13, uv14, uv15, uv16, uv17, uv18, .int .i64 t5, .string ut0,
 .int .i64 (Int.ofNat (ByteArray.size ut0)), .bool !leF (Int.ofNat (ByteArray.size ut0)) t5, .bool true, .string ut0,
 .int .i64 t5, .int .u8 i0, .bool b1, .bool false, .string ut0, .int .i64 t5, .int .u8 i3,
 .bool b4, .bool b4, .bool false, .string ut0, .int .i64 t5, .int .u8 i6, .bool (eqF i6 (Int.ofNat 95)),
 .bool (eqF i6 (Int.ofNat 95)), .bool true, .int .i64 t5, .int .i64 (wrapF .i64 (Int.add t5 (Int.ofNat 1))),
 uv43, uv44, uv45, uv46, uv47, uv48, uv49, uv50, uv51, uv52, uv53, uv54, uv55, uv56, uv57]
 d M5 rc))
 (Q (.exit 0)
 (St.mk
 [.string ut0, .int .i64 ut1, uv2, uv3, uv4, .int .i64 t5, uv6, uv7, uv8, uv9, uv10, uv11, uv12, uv13, uv14, uv15, uv16, uv17,
 uv18, .int .i64 t5, .string ut0, .int .i64 (Int.ofNat (ByteArray.size ut0)),
 .bool !leF (Int.ofNat (ByteArray.size ut0)) t5, .bool true, .string ut0, .int .i64 t5, .int .u8 i0,
 .bool b1, .bool false, .string ut0, .int .i64 t5, .int .u8 i3, .bool b4, .bool b4, .bool false,
 .string ut0, .int .i64 t5, .int .u8 i6, .bool (eqF i6 (Int.ofNat 95)), .bool (eqF i6 (Int.ofNat 95)),
 .bool false, w 41, w 42, uv43, uv44, uv45, uv46, uv47, uv48, uv49, uv50, uv51, uv52, uv53, uv54, uv55, uv56, uv57]
 d M5 rc)))))
 (Q (.exit 0)
 (St.mk
 [.string ut0, .int .i64 ut1, uv2, uv3, uv4, .int .i64 t5, uv6, uv7, uv8, uv9, uv10, uv11, uv12, uv13, uv14, uv15, uv16, uv17, uv18,
 .int .i64 t5, .string ut0, .int .i64 (Int.ofNat (ByteArray.size ut0)), .bool !leF (Int.ofNat (ByteArray.size ut0)) t5, .bool false,
 undef, undef, undef, undef, undef, undef,
 undef, undef, undef, undef, undef, undef,
 undef, undef, undef, undef, .bool false, w 41, w 42, uv43, uv44, uv45, uv46, uv47, uv48, uv49,
 uv50, uv51, uv52, uv53, uv54, uv55, uv56, uv57]
 d M rc))) :
 wpAt Try.prog (Env.fn 72) true ann72 [1, 1, 1, 0, 0, 0]
 (St.mk
 [.string ut0, .int .i64 ut1, uv2, uv3, uv4, .int .i64 t5, uv6, uv7, uv8, uv9, uv10, uv11, uv12, uv13, uv14, uv15, uv16, uv17, uv18, w 19, w 20, w 21, w 22,
 w 23, w 24, w 25, w 26, w 27, w 28, w 29, w 30, w 31, w 32, w 33, w 34, w 35, w 36, w 37, w 38, w 39, w 40, w 41, w 42, uv43, uv44, uv45, uv46, uv47, uv48, uv49, uv50, uv51, uv52,
 uv53, uv54, uv55, uv56, uv57]
 d M rc)
 Q := Eq.mpr (by kernel_rfl) h
def I72_0 (ut0 : ByteArray) (ut1 : Int) (uv2 uv3 uv4 uv6 uv7 uv8 uv9 uv10 uv11 uv12 uv13 uv14 uv15 uv16 uv17 uv18 uv43 uv44 uv45 uv46 uv47 uv48 uv49 uv50 uv51 uv52 uv53 uv54 uv55 uv56 uv57 : Value) (d : List ADef) (rc : Bool) (Inv : Nat → Int → Mem → Prop) (n : Nat) (s : St) : Prop := ∃ (t5 : Int) (w : Nat → Value) (M : Mem), s = (St.mk
 [.string ut0, .int .i64 ut1, uv2, uv3, uv4, .int .i64 t5, uv6, uv7, uv8, uv9, uv10, uv11, uv12, uv13, uv14, uv15, uv16, uv17, uv18, w 19, w 20, w 21, w 22,
 w 23, w 24, w 25, w 26, w 27, w 28, w 29, w 30, w 31, w 32, w 33, w 34, w 35, w 36, w 37, w 38, w 39, w 40, w 41, w 42, uv43, uv44, uv45, uv46, uv47, uv48, uv49, uv50, uv51, uv52, uv53,
 uv54, uv55, uv56, uv57]
 d M rc) ∧ Inv n t5 M
theorem I72_0.mk {ut0 : ByteArray} {ut1 : Int} {uv2 uv3 uv4 uv6 uv7 uv8 uv9 uv10 uv11 uv12 uv13 uv14 uv15 uv16 uv17 uv18 uv43 uv44 uv45 uv46 uv47 uv48 uv49 uv50 uv51 uv52 uv53 uv54 uv55 uv56 uv57 : Value} {d : List ADef} {rc : Bool} {Inv : Nat → Int → Mem → Prop} {n : Nat} {t5 : Int} {v19 v20 v21 v22 v23 v24 v25 v26 v27 v28 v29 v30 v31 v32 v33 v34 v35 v36 v37 v38 v39 v40 v41 v42 : Value} {M : Mem} (hI : Inv n t5 M) : I72_0 ut0 ut1 uv2 uv3 uv4 uv6 uv7 uv8 uv9 uv10 uv11 uv12 uv13 uv14 uv15 uv16 uv17 uv18 uv43 uv44 uv45 uv46 uv47 uv48 uv49 uv50 uv51 uv52 uv53 uv54 uv55 uv56 uv57 d rc Inv n (St.mk
 [.string ut0, .int .i64 ut1, uv2, uv3, uv4, .int .i64 t5, uv6, uv7, uv8, uv9, uv10, uv11, uv12, uv13, uv14, uv15, uv16, uv17, uv18, v19, v20, v21, v22, v23,
 v24, v25, v26, v27, v28, v29, v30, v31, v32, v33, v34, v35, v36, v37, v38, v39, v40, v41, v42, uv43, uv44, uv45, uv46, uv47, uv48, uv49, uv50, uv51, uv52, uv53, uv54, uv55, uv56, uv57]
 d M rc) := ⟨_, (fun i => List.getD ([.string ut0, .int .i64 ut1, uv2, uv3, uv4, .int .i64 t5, uv6, uv7, uv8, uv9, uv10, uv11, uv12, uv13, uv14, uv15, uv16, uv17, uv18, v19, v20, v21, v22, v23, v24,
 v25, v26, v27, v28, v29, v30, v31, v32, v33, v34, v35, v36, v37, v38, v39, v40, v41, v42, uv43, uv44, uv45, uv46, uv47, uv48, uv49, uv50, uv51, uv52, uv53, uv54, uv55, uv56, uv57]) i undef), _, rfl, hI⟩
def X72_0 (ut0 : ByteArray) (ut1 : Int) (uv2 uv3 uv4 uv6 uv7 uv8 uv9 uv10 uv11 uv12 uv13 uv14 uv15 uv16 uv17 uv18 uv43 uv44 uv45 uv46 uv47 uv48 uv49 uv50 uv51 uv52 uv53 uv54 uv55 uv56 uv57 : Value) (d : List ADef) (rc : Bool) (R0 : Int → Mem → Prop) (e : AExit) (s : St) : Prop := (e = (.exit 0) ∧ ∃ (ot5 : Int) (w : Nat → Value) (M : Mem), s = (St.mk
 [.string ut0, .int .i64 ut1, uv2, uv3, uv4, .int .i64 ot5, uv6, uv7, uv8, uv9, uv10, uv11, uv12, uv13, uv14, uv15, uv16, uv17, uv18, w 19, w 20, w 21, w 22,
 w 23, w 24, w 25, w 26, w 27, w 28, w 29, w 30, w 31, w 32, w 33, w 34, w 35, w 36, w 37, w 38, w 39, w 40, w 41, w 42, uv43, uv44, uv45, uv46, uv47, uv48, uv49, uv50, uv51, uv52, uv53,
 uv54, uv55, uv56, uv57]
 d M rc) ∧ R0 ot5 M)
theorem X72_0.mk0 {ut0 : ByteArray} {ut1 : Int} {uv2 uv3 uv4 uv6 uv7 uv8 uv9 uv10 uv11 uv12 uv13 uv14 uv15 uv16 uv17 uv18 uv43 uv44 uv45 uv46 uv47 uv48 uv49 uv50 uv51 uv52 uv53 uv54 uv55 uv56 uv57 : Value} {d : List ADef} {rc : Bool} {R0 : Int → Mem → Prop} {ot5 : Int} {ov19 ov20 ov21 ov22 ov23 ov24 ov25 ov26 ov27 ov28 ov29 ov30 ov31 ov32 ov33 ov34 ov35 ov36 ov37 ov38 ov39 ov40 ov41 ov42 : Value} {M : Mem} (hI : R0 ot5 M) : X72_0 ut0 ut1 uv2 uv3 uv4 uv6 uv7 uv8 uv9 uv10 uv11 uv12 uv13 uv14 uv15 uv16 uv17 uv18 uv43 uv44 uv45 uv46 uv47 uv48 uv49 uv50 uv51 uv52 uv53 uv54 uv55 uv56 uv57 d rc R0 (.exit 0) (St.mk
 [.string ut0, .int .i64 ut1, uv2, uv3, uv4, .int .i64 ot5, uv6, uv7, uv8, uv9, uv10, uv11, uv12, uv13, uv14, uv15, uv16, uv17, uv18, ov19, ov20, ov21, ov22,
 ov23, ov24, ov25, ov26, ov27, ov28, ov29, ov30, ov31, ov32, ov33, ov34, ov35, ov36, ov37, ov38, ov39, ov40, ov41, ov42, uv43, uv44, uv45, uv46, uv47, uv48, uv49, uv50, uv51, uv52, uv53,
 uv54, uv55, uv56, uv57]
 d M rc) := ⟨rfl, _, (fun i => List.getD ([.string ut0, .int .i64 ut1, uv2, uv3, uv4, .int .i64 ot5, uv6, uv7, uv8, uv9, uv10, uv11, uv12, uv13, uv14, uv15, uv16, uv17, uv18, ov19, ov20, ov21, ov22,
 ov23, ov24, ov25, ov26, ov27, ov28, ov29, ov30, ov31, ov32, ov33, ov34, ov35, ov36, ov37, ov38, ov39, ov40, ov41, ov42, uv43, uv44, uv45, uv46, uv47, uv48, uv49, uv50, uv51, uv52, uv53,
 uv54, uv55, uv56, uv57]) i undef), _, rfl, hI⟩
theorem loop72_0 {ut0 : ByteArray} {ut1 : Int} {uv2 uv3 uv4 uv6 uv7 uv8 uv9 uv10 uv11 uv12 uv13 uv14 uv15 uv16 uv17 uv18 uv43 uv44 uv45 uv46 uv47 uv48 uv49 uv50 uv51 uv52 uv53 uv54 uv55 uv56 uv57 : Value} {d : List ADef} {rc : Bool} (Inv : Nat → Int → Mem → Prop) (R0 : Int → Mem → Prop)
 (step : ∀ (n : Nat) (t5 : Int) (M : Mem), Inv n t5 M →
 cnd (!leF (Int.ofNat (ByteArray.size ut0)) t5)
 (∃ (i0 : Int), (indexA Try.prog 9 (.string ut0) (.int .i64 t5) = some (.int .u8 i0)) ∧ ∃ (b1 : Bool), ∃ (M2 : Mem), (Ret Try.prog 94 [.int .u8 i0] M (.bool b1) M2) ∧ cnd (b1)
 (∃ m, m < n ∧ Inv m (wrapF .i64 (Int.add t5 (Int.ofNat 1))) (M2))
 (∃ (i3 : Int), (indexA Try.prog 9 (.string ut0) (.int .i64 t5) = some (.int .u8 i3)) ∧ ∃ (b4 : Bool), ∃ (M5 : Mem), (Ret Try.prog 95 [.int .u8 i3] M2 (.bool b4) M5) ∧ cnd (b4)
 (∃ m, m < n ∧ Inv m (wrapF .i64 (Int.add t5 (Int.ofNat 1))) (M5))
 (∃ (i6 : Int), (indexA Try.prog 9 (.string ut0) (.int .i64 t5) = some (.int .u8 i6)) ∧ cnd (eqF i6 (Int.ofNat 95))
 (∃ m, m < n ∧ Inv m (wrapF .i64 (Int.add t5 (Int.ofNat 1))) (M5))
 (R0 (t5) (M5)))))
 (R0 (t5) (M)))
 {n : Nat} {t5 : Int} {v19 v20 v21 v22 v23 v24 v25 v26 v27 v28 v29 v30 v31 v32 v33 v34 v35 v36 v37 v38 v39 v40 v41 v42 : Value} {M : Mem} (h0 : Inv n t5 M) :
 (∃ (w : Nat → Value) (ot5 : Int) (M' : Mem), Lp Try.prog (Env.fn 72) [1, 1, 1, 0, 0] (St.mk
 [.string ut0, .int .i64 ut1, uv2, uv3, uv4, .int .i64 t5, uv6, uv7, uv8, uv9, uv10, uv11, uv12, uv13, uv14, uv15, uv16, uv17, uv18, v19, v20, v21, v22, v23,
 v24, v25, v26, v27, v28, v29, v30, v31, v32, v33, v34, v35, v36, v37, v38, v39, v40, v41, v42, uv43, uv44, uv45, uv46, uv47, uv48, uv49, uv50, uv51, uv52, uv53, uv54, uv55, uv56, uv57]
 d M rc) (.exit 0) (St.mk [.string ut0, .int .i64 ut1, uv2, uv3, uv4, .int .i64 ot5, uv6, uv7, uv8, uv9, uv10, uv11, uv12, uv13, uv14, uv15, uv16, uv17, uv18, w 19, w 20, w 21, w 22,
 w 23, w 24, w 25, w 26, w 27, w 28, w 29, w 30, w 31, w 32, w 33, w 34, w 35, w 36, w 37, w 38, w 39, w 40, w 41, w 42, uv43, uv44, uv45, uv46, uv47, uv48, uv49, uv50, uv51, uv52, uv53,
 uv54, uv55, uv56, uv57] d M' rc) ∧ R0 ot5 M') := by
 have mono : ∀ (n : Nat) (t5 : Int) (w : Nat → Value) (M : Mem) (Q : AExit → St → Prop) (hN : ∀ {m : Nat} {t5 : Int} {v19 v20 v21 v22 v23 v24 v25 v26 v27 v28 v29 v30 v31 v32 v33 v34 v35 v36 v37 v38 v39 v40 v41 v42 : Value} {M : Mem}, m < n → Inv m t5 M → Q .normal (St.mk
 [.string ut0, .int .i64 ut1, uv2, uv3, uv4, .int .i64 t5, uv6, uv7, uv8, uv9, uv10, uv11, uv12, uv13, uv14, uv15, uv16, uv17, uv18, v19, v20, v21, v22, v23,
 v24, v25, v26, v27, v28, v29, v30, v31, v32, v33, v34, v35, v36, v37, v38, v39, v40, v41, v42, uv43, uv44, uv45, uv46, uv47, uv48, uv49, uv50, uv51, uv52, uv53, uv54, uv55, uv56, uv57]
 d M rc)) (hE0 : ∀ {ot5 : Int} {ov19 ov20 ov21 ov22 ov23 ov24 ov25 ov26 ov27 ov28 ov29 ov30 ov31 ov32 ov33 ov34 ov35 ov36 ov37 ov38 ov39 ov40 ov41 ov42 : Value} {M : Mem}, R0 ot5 M → Q (.exit 0) (St.mk
 [.string ut0, .int .i64 ut1, uv2, uv3, uv4, .int .i64 ot5, uv6, uv7, uv8, uv9, uv10, uv11, uv12, uv13, uv14, uv15, uv16, uv17, uv18, ov19, ov20, ov21, ov22,
 ov23, ov24, ov25, ov26, ov27, ov28, ov29, ov30, ov31, ov32, ov33, ov34, ov35, ov36, ov37, ov38, ov39, ov40, ov41, ov42, uv43, uv44, uv45, uv46, uv47, uv48, uv49, uv50, uv51, uv52, uv53,
 uv54, uv55, uv56, uv57]
 d M rc)) , Inv n t5 M → wpAt Try.prog (Env.fn 72) true ann72 [1, 1, 1, 0, 0, 0] (St.mk
 [.string ut0, .int .i64 ut1, uv2, uv3, uv4, .int .i64 t5, uv6, uv7, uv8, uv9, uv10, uv11, uv12, uv13, uv14, uv15, uv16, uv17, uv18, w 19, w 20, w 21, w 22,
 w 23, w 24, w 25, w 26, w 27, w 28, w 29, w 30, w 31, w 32, w 33, w 34, w 35, w 36, w 37, w 38, w 39, w 40, w 41, w 42, uv43, uv44, uv45, uv46, uv47, uv48, uv49, uv50, uv51, uv52, uv53,
 uv54, uv55, uv56, uv57]
 d M rc) Q :=
 fun n t5 w M Q hN hE0 hI => wl72_0 _ w _ _ _ Q ((cnd_mono (fun ⟨i0, h⟩ => ⟨i0, (fun ⟨a, h⟩ => ⟨a, (fun ⟨b1, h⟩ => ⟨b1, (fun ⟨M2, h⟩ => ⟨M2, (fun ⟨a, h⟩ => ⟨a, (cnd_mono (fun ⟨_, hm, hi⟩ => hN hm hi) (fun ⟨i3, h⟩ => ⟨i3, (fun ⟨a, h⟩ => ⟨a, (fun ⟨b4, h⟩ => ⟨b4, (fun ⟨M5, h⟩ => ⟨M5, (fun ⟨a, h⟩ => ⟨a, (cnd_mono (fun ⟨_, hm, hi⟩ => hN hm hi) (fun ⟨i6, h⟩ => ⟨i6, (fun ⟨a, h⟩ => ⟨a, (cnd_mono (fun ⟨_, hm, hi⟩ => hN hm hi) hE0) h⟩) h⟩)) h⟩) h⟩) h⟩) h⟩) h⟩)) h⟩) h⟩) h⟩) h⟩) h⟩) hE0) (step n t5 M hI))
 have key := loop_lp (P := Try.prog) (E := Env.fn 72) (sym := true) (ann := ann72) (p := [1, 1, 1, 0, 0]) (body := stepC (codeOf Try.prog 72 [1, 1, 1, 0, 0]) 0) (by kernel_rfl) (I72_0 ut0 ut1 uv2 uv3 uv4 uv6 uv7 uv8 uv9 uv10 uv11 uv12 uv13 uv14 uv15 uv16 uv17 uv18 uv43 uv44 uv45 uv46 uv47 uv48 uv49 uv50 uv51 uv52 uv53 uv54 uv55 uv56 uv57 d rc Inv) (X72_0 ut0 ut1 uv2 uv3 uv4 uv6 uv7 uv8 uv9 uv10 uv11 uv12 uv13 uv14 uv15 uv16 uv17 uv18 uv43 uv44 uv45 uv46 uv47 uv48 uv49 uv50 uv51 uv52 uv53 uv54 uv55 uv56 uv57 d rc R0) (by
 rintro n s ⟨_, _, _, rfl, hI⟩
 exact mono n _ _ _ _ (fun hm hi => ⟨_, hm, .mk hi⟩) (fun hr => .mk0 hr) hI)
 obtain ⟨e, s', h1, hX⟩ := key n _ (.mk h0)
 rcases hX with ⟨rfl, _, _, _, rfl, h2⟩
 · exact ⟨_, _, _, h1, h2⟩
theorem w92 {p0 : ByteArray} {p1 : Int} {M : Mem} {K : Value → Mem → Prop} (h : cnd (!leF (Int.ofNat (ByteArray.size p0)) p1)
 (∃ (i0 : Int),
 indexA Try.prog 9 (.string p0) (.int .i64 p1) = some (.int .u8 i0) ∧
 cnd (eqF i0 (Int.ofNat 45))
 (∃ (x1 : Nat → Value),
 ∃ (i2 : Int),
 ∃ (M3 : Mem),
 Lp Try.prog (Env.fn 92) [1, 1, 1, 1, 0, 0]
 (St.mk
 [.string p0, .int .i64 p1, undef, undef, .int .i64 (Int.ofNat 0),
 .int .i64 (wrapF .i64 (Int.add p1 (Int.ofNat 1))), .int .i64 (wrapF .i64 (Int.add p1 (Int.ofNat 1))), .int .i64 p1,
 .int .i64 p1, .string p0, .int .i64 (Int.ofNat (ByteArray.size p0)), .bool !leF (Int.ofNat (ByteArray.size p0)) p1, .bool true,
 .string p0, .int .i64 p1, .int .u8 i0, .bool (eqF i0 (Int.ofNat 45)), .bool true, .int .i64 p1,
 .int .i64 (wrapF .i64 (Int.add p1 (Int.ofNat 1))), .int .i64 (wrapF .i64 (Int.add p1 (Int.ofNat 1))), undef,
 undef, undef, undef, undef, undef, undef,
 undef, undef, undef, undef, undef, undef,
 undef, undef, undef, undef, undef]
 [] M false)
 (.exit 0)
 (St.mk
 [.string p0, .int .i64 p1, undef, undef, .int .i64 (Int.ofNat 0), .int .i64 i2,
 .int .i64 (wrapF .i64 (Int.add p1 (Int.ofNat 1))), .int .i64 p1, .int .i64 p1, .string p0,
 .int .i64 (Int.ofNat (ByteArray.size p0)), .bool !leF (Int.ofNat (ByteArray.size p0)) p1, .bool true, .string p0, .int .i64 p1,
 .int .u8 i0, .bool (eqF i0 (Int.ofNat 45)), .bool true, .int .i64 p1,
 .int .i64 (wrapF .i64 (Int.add p1 (Int.ofNat 1))), .int .i64 (wrapF .i64 (Int.add p1 (Int.ofNat 1))), x1 21, x1 22, x1 23, x1 24,
 x1 25, x1 26, x1 27, x1 28, x1 29, x1 30, x1 31, x1 32, undef, undef, undef, undef,
 undef, undef]
 [] M3 false) ∧
 cnd (eqF i2 (wrapF .i64 (Int.add p1 (Int.ofNat 1)))) (K (.int .i64 (Int.ofNat 0)) M3) (K (.int .i64 (wrapF .i64 (Int.sub i2 p1))) M3))
 (∃ (x4 : Nat → Value),
 ∃ (i5 : Int),
 ∃ (M6 : Mem),
 Lp Try.prog (Env.fn 92) [1, 1, 1, 1, 0, 0]
 (St.mk
 [.string p0, .int .i64 p1, undef, undef, .int .i64 (Int.ofNat 0), .int .i64 p1,
 .int .i64 p1, .int .i64 p1, .int .i64 p1, .string p0, .int .i64 (Int.ofNat (ByteArray.size p0)),
 .bool !leF (Int.ofNat (ByteArray.size p0)) p1, .bool true, .string p0, .int .i64 p1, .int .u8 i0,
 .bool (eqF i0 (Int.ofNat 45)), .bool false, undef, undef, .int .i64 p1, undef,
 undef, undef, undef, undef, undef, undef,
 undef, undef, undef, undef, undef, undef,
 undef, undef, undef, undef, undef]
 [] M false)
 (.exit 0)
 (St.mk
 [.string p0, .int .i64 p1, undef, undef, .int .i64 (Int.ofNat 0), .int .i64 i5,
 .int .i64 p1, .int .i64 p1, .int .i64 p1, .string p0, .int .i64 (Int.ofNat (ByteArray.size p0)),
 .bool !leF (Int.ofNat (ByteArray.size p0)) p1, .bool true, .string p0, .int .i64 p1, .int .u8 i0,
 .bool (eqF i0 (Int.ofNat 45)), .bool false, undef, undef, .int .i64 p1, x4 21, x4 22, x4 23, x4 24, x4 25,
 x4 26, x4 27, x4 28, x4 29, x4 30, x4 31, x4 32, undef, undef, undef, undef,
 undef, undef]
 [] M6 false) ∧
 cnd (eqF i5 p1) (K (.int .i64 (Int.ofNat 0)) M6) (K (.int .i64 (wrapF .i64 (Int.sub i5 p1))) M6)))
 (∃ (x7 : Nat → Value),
 ∃ (i8 : Int),
 ∃ (M9 : Mem),
 Lp Try.prog (Env.fn 92) [1, 1, 1, 1, 0, 0]
 (St.mk
 [.string p0, .int .i64 p1, undef, undef, .int .i64 (Int.ofNat 0), .int .i64 p1,
 .int .i64 p1, .int .i64 p1, .int .i64 p1, .string p0, .int .i64 (Int.ofNat (ByteArray.size p0)),
 .bool !leF (Int.ofNat (ByteArray.size p0)) p1, .bool false, undef, undef, undef,
 undef, .bool false, undef, undef, .int .i64 p1, undef,
 undef, undef, undef, undef, undef, undef,
 undef, undef, undef, undef, undef, undef,
 undef, undef, undef, undef, undef]
 [] M false)
 (.exit 0)
 (St.mk
 [.string p0, .int .i64 p1, undef, undef, .int .i64 (Int.ofNat 0), .int .i64 i8,
 .int .i64 p1, .int .i64 p1, .int .i64 p1, .string p0, .int .i64 (Int.ofNat (ByteArray.size p0)),
 .bool !leF (Int.ofNat (ByteArray.size p0)) p1, .bool false, undef, undef, undef,
 undef, .bool false, undef, undef, .int .i64 p1, x7 21, x7 22, x7 23, x7 24, x7 25, x7 26, x7 27,
 x7 28, x7 29, x7 30, x7 31, x7 32, undef, undef, undef, undef, undef,
 undef]
 [] M9 false) ∧
 cnd (eqF i8 p1) (K (.int .i64 (Int.ofNat 0)) M9) (K (.int .i64 (wrapF .i64 (Int.sub i8 p1))) M9))) :
 wpRet Try.prog 92 true ann92 [.string p0, .int .i64 p1] M K := Eq.mpr (by kernel_rfl) h
theorem wl92_0 {ut0 : ByteArray} {ut1 : Int} {uv2 uv3 uv4 : Value} {ut6 : Int} {uv7 uv8 uv9 uv10 uv11 uv12 uv13 uv14 uv15 uv16 uv17 uv18 uv19 uv20 uv33 uv34 uv35 uv36 uv37 uv38 : Value} (t5 : Int) (w : Nat → Value) (d : List ADef) (rc : Bool) (M : Mem) (Q : AExit → St → Prop) (h : cnd (!leF (Int.ofNat (ByteArray.size ut0)) t5)
 (∃ (i0 : Int),
 indexA Try.prog 9 (.string ut0) (.int .i64 t5) = some (.int .u8 i0) ∧
 ∃ (b1 : Bool),
 ∃ (M2 : Mem),
 Ret Try.prog 95 [.int .u8 i0] M (.bool b1) M2 ∧
 cnd b1
 (Q .normal
 (St.mk
 [.string ut0, .int .i64 ut1, uv2, uv3, uv4, .int .i64 (wrapF .i64 (Int.add t5 (Int.ofNat 1))), .int .i64 ut6, uv7, uv8, uv9,
 uv10, uv11, uv12, uv13, uv14, uv15, uv16, uv17, uv18, uv19, uv20, .int .i64 t5, .string ut0, .int .i64 (Int.ofNat (ByteArray.size ut0)),
 .bool !leF (Int.ofNat (ByteArray.size ut0)) t5, .bool true, .string ut0, .int .i64 t5, .int .u8 i0, .bool b1, .bool true,
 .int .i64 t5, .int .i64 (wrapF .i64 (Int.add t5 (Int.ofNat 1))), uv33, uv34, uv35, uv36, uv37, uv38]
 d M2 rc))
 (Q (.exit 0)
 (St.mk
 [.string ut0, .int .i64 ut1, uv2, uv3, uv4, .int .i64 t5, .int .i64 ut6, uv7, uv8, uv9, uv10, uv11, uv12, uv13, uv14, uv15, uv16,
 uv17, uv18, uv19, uv20, .int .i64 t5, .string ut0, .int .i64 (Int.ofNat (ByteArray.size ut0)),
 .bool !leF (Int.ofNat (ByteArray.size ut0)) t5, .bool true, .string ut0, .int .i64 t5, .int .u8 i0, .bool b1,
 .bool false, w 31, w 32, uv33, uv34, uv35, uv36, uv37, uv38]
 d M2 rc)))
 (Q (.exit 0)
 (St.mk
 [.string ut0, .int .i64 ut1, uv2, uv3, uv4, .int .i64 t5, .int .i64 ut6, uv7, uv8, uv9, uv10, uv11, uv12, uv13, uv14, uv15, uv16, uv17, uv18,
 uv19, uv20, .int .i64 t5, .string ut0, .int .i64 (Int.ofNat (ByteArray.size ut0)), .bool !leF (Int.ofNat (ByteArray.size ut0)) t5, .bool false,
 undef, undef, undef, undef, .bool false, w 31, w 32, uv33, uv34, uv35, uv36, uv37, uv38]
 d M rc))) :
 wpAt Try.prog (Env.fn 92) true ann92 [1, 1, 1, 1, 0, 0, 0]
 (St.mk
 [.string ut0, .int .i64 ut1, uv2, uv3, uv4, .int .i64 t5, .int .i64 ut6, uv7, uv8, uv9, uv10, uv11, uv12, uv13, uv14, uv15, uv16, uv17, uv18,
 uv19, uv20, w 21, w 22, w 23, w 24, w 25, w 26, w 27, w 28, w 29, w 30, w 31, w 32, uv33, uv34, uv35, uv36, uv37, uv38]
 d M rc)
 Q := Eq.mpr (by kernel_rfl) h
def I92_0 (ut0 : ByteArray) (ut1 : Int) (uv2 uv3 uv4 : Value) (ut6 : Int) (uv7 uv8 uv9 uv10 uv11 uv12 uv13 uv14 uv15 uv16 uv17 uv18 uv19 uv20 uv33 uv34 uv35 uv36 uv37 uv38 : Value) (d : List ADef) (rc : Bool) (Inv : Nat → Int → Mem → Prop) (n : Nat) (s : St) : Prop := ∃ (t5 : Int) (w : Nat → Value) (M : Mem), s = (St.mk
 [.string ut0, .int .i64 ut1, uv2, uv3, uv4, .int .i64 t5, .int .i64 ut6, uv7, uv8, uv9, uv10, uv11, uv12, uv13, uv14, uv15, uv16, uv17, uv18, uv19,
 uv20, w 21, w 22, w 23, w 24, w 25, w 26, w 27, w 28, w 29, w 30, w 31, w 32, uv33, uv34, uv35, uv36, uv37, uv38]
 d M rc) ∧ Inv n t5 M
theorem I92_0.mk {ut0 : ByteArray} {ut1 : Int} {uv2 uv3 uv4 : Value} {ut6 : Int} {uv7 uv8 uv9 uv10 uv11 uv12 uv13 uv14 uv15 uv16 uv17 uv18 uv19 uv20 uv33 uv34 uv35 uv36 uv37 uv38 : Value} {d : List ADef} {rc : Bool} {Inv : Nat → Int → Mem → Prop} {n : Nat} {t5 : Int} {v21 v22 v23 v24 v25 v26 v27 v28 v29 v30 v31 v32 : Value} {M : Mem} (hI : Inv n t5 M) : I92_0 ut0 ut1 uv2 uv3 uv4 ut6 uv7 uv8 uv9 uv10 uv11 uv12 uv13 uv14 uv15 uv16 uv17 uv18 uv19 uv20 uv33 uv34 uv35 uv36 uv37 uv38 d rc Inv n (St.mk
 [.string ut0, .int .i64 ut1, uv2, uv3, uv4, .int .i64 t5, .int .i64 ut6, uv7, uv8, uv9, uv10, uv11, uv12, uv13, uv14, uv15, uv16, uv17, uv18, uv19,
 uv20, v21, v22, v23, v24, v25, v26, v27, v28, v29, v30, v31, v32, uv33, uv34, uv35, uv36, uv37, uv38]
 d M rc) := ⟨_, (fun i => List.getD ([.string ut0, .int .i64 ut1, uv2, uv3, uv4, .int .i64 t5, .int .i64 ut6, uv7, uv8, uv9, uv10, uv11, uv12, uv13, uv14, uv15, uv16, uv17, uv18, uv19,
 uv20, v21, v22, v23, v24, v25, v26, v27, v28, v29, v30, v31, v32, uv33, uv34, uv35, uv36, uv37, uv38]) i undef), _, rfl, hI⟩
def X92_0 (ut0 : ByteArray) (ut1 : Int) (uv2 uv3 uv4 : Value) (ut6 : Int) (uv7 uv8 uv9 uv10 uv11 uv12 uv13 uv14 uv15 uv16 uv17 uv18 uv19 uv20 uv33 uv34 uv35 uv36 uv37 uv38 : Value) (d : List ADef) (rc : Bool) (R0 : Int → Mem → Prop) (e : AExit) (s : St) : Prop := (e = (.exit 0) ∧ ∃ (ot5 : Int) (w : Nat → Value) (M : Mem), s = (St.mk
 [.string ut0, .int .i64 ut1, uv2, uv3, uv4, .int .i64 ot5, .int .i64 ut6, uv7, uv8, uv9, uv10, uv11, uv12, uv13, uv14, uv15, uv16, uv17, uv18,
 uv19, uv20, w 21, w 22, w 23, w 24, w 25, w 26, w 27, w 28, w 29, w 30, w 31, w 32, uv33, uv34, uv35, uv36, uv37, uv38]
 d M rc) ∧ R0 ot5 M)
theorem X92_0.mk0 {ut0 : ByteArray} {ut1 : Int} {uv2 uv3 uv4 : Value} {ut6 : Int} {uv7 uv8 uv9 uv10 uv11 uv12 uv13 uv14 uv15 uv16 uv17 uv18 uv19 uv20 uv33 uv34 uv35 uv36 uv37 uv38 : Value} {d : List ADef} {rc : Bool} {R0 : Int → Mem → Prop} {ot5 : Int} {ov21 ov22 ov23 ov24 ov25 ov26 ov27 ov28 ov29 ov30 ov31 ov32 : Value} {M : Mem} (hI : R0 ot5 M) : X92_0 ut0 ut1 uv2 uv3 uv4 ut6 uv7 uv8 uv9 uv10 uv11 uv12 uv13 uv14 uv15 uv16 uv17 uv18 uv19 uv20 uv33 uv34 uv35 uv36 uv37 uv38 d rc R0 (.exit 0) (St.mk
 [.string ut0, .int .i64 ut1, uv2, uv3, uv4, .int .i64 ot5, .int .i64 ut6, uv7, uv8, uv9, uv10, uv11, uv12, uv13, uv14, uv15, uv16, uv17, uv18,
 uv19, uv20, ov21, ov22, ov23, ov24, ov25, ov26, ov27, ov28, ov29, ov30, ov31, ov32, uv33, uv34, uv35, uv36, uv37, uv38]
 d M rc) := ⟨rfl, _, (fun i => List.getD ([.string ut0, .int .i64 ut1, uv2, uv3, uv4, .int .i64 ot5, .int .i64 ut6, uv7, uv8, uv9, uv10, uv11, uv12, uv13, uv14, uv15, uv16, uv17, uv18, uv19,
 uv20, ov21, ov22, ov23, ov24, ov25, ov26, ov27, ov28, ov29, ov30, ov31, ov32, uv33, uv34, uv35, uv36, uv37, uv38]) i undef), _, rfl, hI⟩
theorem loop92_0 {ut0 : ByteArray} {ut1 : Int} {uv2 uv3 uv4 : Value} {ut6 : Int} {uv7 uv8 uv9 uv10 uv11 uv12 uv13 uv14 uv15 uv16 uv17 uv18 uv19 uv20 uv33 uv34 uv35 uv36 uv37 uv38 : Value} {d : List ADef} {rc : Bool} (Inv : Nat → Int → Mem → Prop) (R0 : Int → Mem → Prop)
 (step : ∀ (n : Nat) (t5 : Int) (M : Mem), Inv n t5 M →
 cnd (!leF (Int.ofNat (ByteArray.size ut0)) t5)
 (∃ (i0 : Int), (indexA Try.prog 9 (.string ut0) (.int .i64 t5) = some (.int .u8 i0)) ∧ ∃ (b1 : Bool), ∃ (M2 : Mem), (Ret Try.prog 95 [.int .u8 i0] M (.bool b1) M2) ∧ cnd (b1)
 (∃ m, m < n ∧ Inv m (wrapF .i64 (Int.add t5 (Int.ofNat 1))) (M2))
 (R0 (t5) (M2)))
 (R0 (t5) (M)))
 {n : Nat} {t5 : Int} {v21 v22 v23 v24 v25 v26 v27 v28 v29 v30 v31 v32 : Value} {M : Mem} (h0 : Inv n t5 M) :
 (∃ (w : Nat → Value) (ot5 : Int) (M' : Mem), Lp Try.prog (Env.fn 92) [1, 1, 1, 1, 0, 0] (St.mk
 [.string ut0, .int .i64 ut1, uv2, uv3, uv4, .int .i64 t5, .int .i64 ut6, uv7, uv8, uv9, uv10, uv11, uv12, uv13, uv14, uv15, uv16, uv17, uv18, uv19,
 uv20, v21, v22, v23, v24, v25, v26, v27, v28, v29, v30, v31, v32, uv33, uv34, uv35, uv36, uv37, uv38]
 d M rc) (.exit 0) (St.mk [.string ut0, .int .i64 ut1, uv2, uv3, uv4, .int .i64 ot5, .int .i64 ut6, uv7, uv8, uv9, uv10, uv11, uv12, uv13, uv14, uv15, uv16, uv17, uv18, uv19,
 uv20, w 21, w 22, w 23, w 24, w 25, w 26, w 27, w 28, w 29, w 30, w 31, w 32, uv33, uv34, uv35, uv36, uv37, uv38] d M' rc) ∧ R0 ot5 M') := by
 have mono : ∀ (n : Nat) (t5 : Int) (w : Nat → Value) (M : Mem) (Q : AExit → St → Prop) (hN : ∀ {m : Nat} {t5 : Int} {v21 v22 v23 v24 v25 v26 v27 v28 v29 v30 v31 v32 : Value} {M : Mem}, m < n → Inv m t5 M → Q .normal (St.mk
 [.string ut0, .int .i64 ut1, uv2, uv3, uv4, .int .i64 t5, .int .i64 ut6, uv7, uv8, uv9, uv10, uv11, uv12, uv13, uv14, uv15, uv16, uv17, uv18, uv19,
 uv20, v21, v22, v23, v24, v25, v26, v27, v28, v29, v30, v31, v32, uv33, uv34, uv35, uv36, uv37, uv38]
 d M rc)) (hE0 : ∀ {ot5 : Int} {ov21 ov22 ov23 ov24 ov25 ov26 ov27 ov28 ov29 ov30 ov31 ov32 : Value} {M : Mem}, R0 ot5 M → Q (.exit 0) (St.mk
 [.string ut0, .int .i64 ut1, uv2, uv3, uv4, .int .i64 ot5, .int .i64 ut6, uv7, uv8, uv9, uv10, uv11, uv12, uv13, uv14, uv15, uv16, uv17, uv18,
 uv19, uv20, ov21, ov22, ov23, ov24, ov25, ov26, ov27, ov28, ov29, ov30, ov31, ov32, uv33, uv34, uv35, uv36, uv37, uv38]
 d M rc)) , Inv n t5 M → wpAt Try.prog (Env.fn 92) true ann92 [1, 1, 1, 1, 0, 0, 0] (St.mk
 [.string ut0, .int .i64 ut1, uv2, uv3, uv4, .int .i64 t5, .int .i64 ut6, uv7, uv8, uv9, uv10, uv11, uv12, uv13, uv14, uv15, uv16, uv17, uv18, uv19,
 uv20, w 21, w 22, w 23, w 24, w 25, w 26, w 27, w 28, w 29, w 30, w 31, w 32, uv33, uv34, uv35, uv36, uv37, uv38]
 d M rc) Q :=
 fun n t5 w M Q hN hE0 hI => wl92_0 _ w _ _ _ Q ((cnd_mono (fun ⟨i0, h⟩ => ⟨i0, (fun ⟨a, h⟩ => ⟨a, (fun ⟨b1, h⟩ => ⟨b1, (fun ⟨M2, h⟩ => ⟨M2, (fun ⟨a, h⟩ => ⟨a, (cnd_mono (fun ⟨_, hm, hi⟩ => hN hm hi) hE0) h⟩) h⟩) h⟩) h⟩) h⟩) hE0) (step n t5 M hI))
 have key := loop_lp (P := Try.prog) (E := Env.fn 92) (sym := true) (ann := ann92) (p := [1, 1, 1, 1, 0, 0]) (body := stepC (codeOf Try.prog 92 [1, 1, 1, 1, 0, 0]) 0) (by kernel_rfl) (I92_0 ut0 ut1 uv2 uv3 uv4 ut6 uv7 uv8 uv9 uv10 uv11 uv12 uv13 uv14 uv15 uv16 uv17 uv18 uv19 uv20 uv33 uv34 uv35 uv36 uv37 uv38 d rc Inv) (X92_0 ut0 ut1 uv2 uv3 uv4 ut6 uv7 uv8 uv9 uv10 uv11 uv12 uv13 uv14 uv15 uv16 uv17 uv18 uv19 uv20 uv33 uv34 uv35 uv36 uv37 uv38 d rc R0) (by
 rintro n s ⟨_, _, _, rfl, hI⟩
 exact mono n _ _ _ _ (fun hm hi => ⟨_, hm, .mk hi⟩) (fun hr => .mk0 hr) hI)
 obtain ⟨e, s', h1, hX⟩ := key n _ (.mk h0)
 rcases hX with ⟨rfl, _, _, _, rfl, h2⟩
 · exact ⟨_, _, _, h1, h2⟩
theorem w67 {p0 : ByteArray} {M : Mem} {K : Value → Mem → Prop} (h : cnd (eqS p0 (ByteArray.mk #[])) (K (.bool false) M)
 (∃ (i0 : Int),
 ∃ (M1 : Mem),
 Ret Try.prog 92 [.string p0, .int .i64 (Int.ofNat 0)] M (.int .i64 i0) M1 ∧
 cnd (!eqF i0 (Int.ofNat (ByteArray.size p0))) (K (.bool false) M1)
 (∃ (i2 : Int),
 indexA Try.prog 9 (.string p0) (.int .i64 (Int.ofNat 0)) = some (.int .u8 i2) ∧
 cnd (eqF i2 (Int.ofNat 45))
 (∃ (i3 : Int), indexA Try.prog 9 (.string p0) (.int .i64 (Int.ofNat 1)) = some (.int .u8 i3) ∧ K (.bool !eqF i3 (Int.ofNat 48)) M1)
 (cnd (eqS p0 (ByteArray.mk #[48])) (K (.bool true) M1)
 (∃ (i4 : Int), indexA Try.prog 9 (.string p0) (.int .i64 (Int.ofNat 0)) = some (.int .u8 i4) ∧ K (.bool !eqF i4 (Int.ofNat 48)) M1))))) :
 wpRet Try.prog 67 true [] [.string p0] M K := Eq.mpr (by kernel_rfl) h
theorem w94 {p0 : Int} {M : Mem} {K : Value → Mem → Prop} (h : cnd (leF (Int.ofNat 97) p0) (cnd (leF p0 (Int.ofNat 122)) (K (.bool true) M) (cnd (leF (Int.ofNat 65) p0) (K (.bool (leF p0 (Int.ofNat 90))) M) (K (.bool false) M)))
 (cnd (leF (Int.ofNat 65) p0) (K (.bool (leF p0 (Int.ofNat 90))) M) (K (.bool false) M))) :
 wpRet Try.prog 94 true [] [.int .u8 p0] M K := Eq.mpr (by kernel_rfl) h
theorem w95 {p0 : Int} {M : Mem} {K : Value → Mem → Prop} (h : cnd (leF (Int.ofNat 48) p0) (K (.bool (leF p0 (Int.ofNat 57))) M) (K (.bool false) M)) :
 wpRet Try.prog 95 true [] [.int .u8 p0] M K := Eq.mpr (by kernel_rfl) h

end Go.Proofs.YtabkcbaknjenmaaAM

/-
  THE NODE LAWS: what is to be shown for functions, printed by a program: names of kinds, kids
-/
set_option linter.unusedVariables false
namespace Go.Proofs.YtabkcbaknjenmaaAM
open Go Go.Proofs
set_option maxRecDepth 100000
def ann65 : Ann := [([1, 1, 0, 1, 0], [(some 0, [(5, some 22), (6, none), (7, none), (8, none), (9, none), (10, none), (11, none), (12, none), (13, none), (14, none), (15, none)])])]
def ann85 : Ann := [([1, 1, 1, 1, 1, 1, 0, 0], [(some 0, [(8, none), (34, none), (35, none), (36, none), (37, none), (38, none), (39, none), (40, none), (41, none), (42, none), (43, none), (44, none), (45, none), (46, none)])])]
theorem w64 {p0 : Option Addr} {p0n p0c : Nat} {M : Mem} {K : Value → Mem → Prop} (h : K (.func (Fn.func 90) (Array.mk []) (Array.mk [.pointer (some (.mk (List.length M) 0 none))])) (M ++ [AObj.cells [.slice p0 p0n p0c] 1 Mode.live])) :
 wpRet Try.prog 64 true [] [.slice p0 p0n p0c] M K := Eq.mpr (by kernel_rfl) h
theorem w90 {p0 : ByteArray} {c0 : Nat} {M : Mem} {K : Value → Mem → Prop} (h : ∃ (a0 : Option Addr),
 ∃ (n1 : Nat),
 ∃ (n2 : Nat),
 rdVar Try.prog M 53 c0 0 = some (.slice a0 n1 n2) ∧
 ∃ (b3 : Bool), ∃ (M4 : Mem), Ret Try.prog 38 [.slice a0 n1 n2, .string p0] M (.bool b3) M4 ∧ K (.bool b3) M4) :
 wpRet Try.prog 90 true [] [.string p0, .pointer (some (.mk c0 0 none))] M K := Eq.mpr (by kernel_rfl) h
theorem w59 {p0 : Option Addr} {p0n p0c : Nat} {M : Mem} {K : Value → Mem → Prop} (h : K (.func (Fn.func 88) (Array.mk []) (Array.mk [.pointer (some (.mk (List.length M) 0 none))])) (M ++ [AObj.cells [.slice p0 p0n p0c] 1 Mode.live])) :
 wpRet Try.prog 59 true [] [.slice p0 p0n p0c] M K := Eq.mpr (by kernel_rfl) h
theorem w88 {p00 : Int} {p01 p02 : ByteArray} {p03 : Option Addr} {p03n p03c : Nat} {p04 : Int} {c0 : Nat} {M : Mem} {K : Value → Mem → Prop} (h : ∃ (a0 : Option Addr),
 ∃ (n1 : Nat),
 ∃ (n2 : Nat),
 rdVar Try.prog (M ++ [AObj.cells [.int .i64 p00, .string p01, .string p02, .slice p03 p03n p03c, .int .i64 p04] 5 Mode.live]) 22 c0 0 =
 some (Value.slice a0 n1 n2) ∧
 ∃ (a3 : Option Addr),
 ∃ (n4 : Nat),
 ∃ (n5 : Nat),
 rdVar Try.prog (M ++ [AObj.cells [.int .i64 p00, .string p01, .string p02, .slice p03 p03n p03c, .int .i64 p04] 5 Mode.live]) 22 c0 0 =
 some (Value.slice a3 n4 n5) ∧
 ∃ (a6 : Option Addr),
 ∃ (n7 : Nat),
 ∃ (n8 : Nat),
 rdVar Try.prog (M ++ [AObj.cells [.int .i64 p00, .string p01, .string p02, .slice p03 p03n p03c, .int .i64 p04] 5 Mode.live]) 22
 (List.length M) 3 =
 some (Value.slice a6 n7 n8) ∧
 True ∧
 K (.tuple (Array.mk [.slice a0 n1 n2, .bool (eqF (Int.ofNat n4) (Int.ofNat n7))]))
 (M ++ [AObj.cells [.int .i64 p00, .string p01, .string p02, .slice p03 p03n p03c, .int .i64 p04] 5 Mode.live])) :
 wpRet Try.prog 88 true []
 [.agg (Array.mk [.int .i64 p00, .string p01, .string p02, .slice p03 p03n p03c, .int .i64 p04]), .pointer (some (.mk c0 0 none))] M K := Eq.mpr (by kernel_rfl) h
theorem w57 {p0 p1 p2 : Int} {M : Mem} {K : Value → Mem → Prop} (h : K
 (.func (Fn.func 84) (Array.mk [])
 (Array.mk
 [.pointer (some (.mk (List.length M) 0 none)), .pointer (some (.mk (List.length (M ++ [AObj.cells [.int .i64 p0] 1 Mode.live])) 0 none)),
 .pointer (some (.mk (List.length (M ++ [AObj.cells [.int .i64 p0] 1 Mode.live] ++ [AObj.cells [.int .i64 p1] 1 Mode.live])) 0 none))]))
 (M ++ [AObj.cells [.int .i64 p0] 1 Mode.live] ++ [AObj.cells [.int .i64 p1] 1 Mode.live] ++ [AObj.cells [.int .i64 p2] 1 Mode.live])) :
 wpRet Try.prog 57 true [] [.int .i64 p0, .int .i64 p1, .int .i64 p2] M K := Eq.mpr (by kernel_rfl) h
theorem w84 {p00 : Int} {p01 p02 : ByteArray} {p03 : Option Addr} {p03n p03c : Nat} {p04 : Int} {c0 c1 c2 : Nat} {M : Mem} {K : Value → Mem → Prop} (h : ∃ (a0 : Option Addr),
 ∃ (n1 : Nat),
 ∃ (n2 : Nat),
 rdVar Try.prog (M ++ [AObj.cells [.int .i64 p00, .string p01, .string p02, .slice p03 p03n p03c, .int .i64 p04] 5 Mode.live]) 22 (List.length M)
 3 =
 some (Value.slice a0 n1 n2) ∧
 ∃ (i3 : Int),
 rdVar Try.prog (M ++ [AObj.cells [.int .i64 p00, .string p01, .string p02, .slice p03 p03n p03c, .int .i64 p04] 5 Mode.live]) 3 c0 0 =
 some (Value.int .i64 i3) ∧
 ∃ (a4 : Option Addr),
 ∃ (n5 : Nat),
 ∃ (n6 : Nat),
 ∃ (M7 : Mem),
 Ret Try.prog 85
 [.slice
 (some
 (.mk
 (List.length
 (M ++ [AObj.cells [.int .i64 p00, .string p01, .string p02, .slice p03 p03n p03c, .int .i64 p04] 5 Mode.live]))
 0 none))
 1 1,
 .int .i64 (Int.ofNat n1)]
 (M ++ [AObj.cells [.int .i64 p00, .string p01, .string p02, .slice p03 p03n p03c, .int .i64 p04] 5 Mode.live] ++
 [AObj.cells [.int .i64 i3] 1 Mode.live])
 (.slice a4 n5 n6) M7 ∧
 ∃ (i8 : Int),
 rdVar Try.prog M7 3 c1 0 = some (.int .i64 i8) ∧
 cnd (leF i8 (Int.ofNat n1))
 (∃ (i9 : Int),
 rdVar Try.prog M7 3 c2 0 = some (.int .i64 i9) ∧
 (((c1 <
 List.length
 (M ++
 [AObj.cells [.int .i64 p00, .string p01, .string p02, .slice p03 p03n p03c, .int .i64 p04] 5
 Mode.live] ++
 [AObj.cells [.int .i64 i3] 1 Mode.live]) →
 M7[c1]? =
 (M ++
 [AObj.cells [.int .i64 p00, .string p01, .string p02, .slice p03 p03n p03c, .int .i64 p04] 5
 Mode.live] ++
 [AObj.cells [.int .i64 i3] 1 Mode.live])[c1]?) ∧
 True) ∧
 True) ∧
 K (.tuple (Array.mk [.slice a4 n5 n6, .bool (leF (Int.ofNat n1) i9)])) M7)
 ((((c1 <
 List.length
 (M ++
 [AObj.cells [.int .i64 p00, .string p01, .string p02, .slice p03 p03n p03c, .int .i64 p04] 5 Mode.live] ++
 [AObj.cells [.int .i64 i3] 1 Mode.live]) →
 M7[c1]? =
 (M ++ [AObj.cells [.int .i64 p00, .string p01, .string p02, .slice p03 p03n p03c, .int .i64 p04] 5 Mode.live] ++
 [AObj.cells [.int .i64 i3] 1 Mode.live])[c1]?) ∧
 True) ∧
 True) ∧
 K (.tuple (Array.mk [.slice a4 n5 n6, .bool false])) M7)) :
 wpRet Try.prog 84 true []
 [.agg (Array.mk [.int .i64 p00, .string p01, .string p02, .slice p03 p03n p03c, .int .i64 p04]), .pointer (some (.mk c0 0 none)),
 .pointer (some (.mk c1 0 none)), .pointer (some (.mk c2 0 none))]
 M K := Eq.mpr (by kernel_rfl) h
theorem w61 {p00 : Int} {p01 p02 : ByteArray} {p03 : Option Addr} {p03n p03c : Nat} {p04 : Int} {M : Mem} {K : Value → Mem → Prop} (h : (∃ (x0 : FuncId),
 ∃ (M1 : List Value),
 ∃ (M2 : Mem),
 Ret Try.prog 57 [.int .i64 (Int.ofNat 0), .int .i64 (Int.ofNat 0), .int .i64 (Int.ofNat 128)]
 (M ++ [AObj.cells [.int .i64 p00, .string p01, .string p02, .slice p03 p03n p03c, .int .i64 p04] 5 Mode.live])
 (.func (Fn.func x0) (Array.mk []) (Array.mk M1)) M2 ∧
 ∃ (i3 : Int),
 ∃ (s4 : ByteArray),
 ∃ (s5 : ByteArray),
 ∃ (a6 : Option Addr),
 ∃ (n7 : Nat),
 ∃ (n8 : Nat),
 ∃ (i9 : Int),
 rdVar Try.prog M2 24 (List.length M) 0 =
 some (Value.agg (Array.mk [.int .i64 i3, .string s4, .string s5, .slice a6 n7 n8, .int .i64 i9])) ∧
 cnd (walksIn Try.prog x0)
 (∃ (a10 : Option Addr),
 ∃ (n11 : Nat),
 ∃ (n12 : Nat),
 ∃ (b13 : Bool),
 ∃ (M14 : Mem),
 Ret Try.prog x0
 (.agg (Array.mk [.int .i64 i3, .string s4, .string s5, .slice a6 n7 n8, .int .i64 i9]) :: M1) M2
 (.tuple (Array.mk [.slice a10 n11 n12, .bool b13])) M14 ∧
 (((List.length M <
 List.length
 (M ++
 [AObj.cells [.int .i64 p00, .string p01, .string p02, .slice p03 p03n p03c, .int .i64 p04] 5
 Mode.live]) →
 M2[List.length M]? =
 (M ++
 [AObj.cells [.int .i64 p00, .string p01, .string p02, .slice p03 p03n p03c, .int .i64 p04] 5
 Mode.live])[List.length M]?) ∧
 True) ∧
 True) ∧
 cnd b13
 (∃ (i19 : Int),
 binA Try.prog BinOp.rem 3 (Operand.tmp 16) (Operand.const (.int .i64 (Int.ofNat 2))) (.int .i64 (Int.ofNat n11))
 (.int .i64 (Int.ofNat 2)) =
 some (Value.int .i64 i19) ∧
 K (.tuple (Array.mk [.slice a10 n11 n12, .bool (eqF i19 (Int.ofNat 0))])) M14)
 (K (.tuple (Array.mk [.slice a10 n11 n12, .bool false])) M14))
 False) ∨
 ∃ (M20 : Mem),
 Ret Try.prog 57 [.int .i64 (Int.ofNat 0), .int .i64 (Int.ofNat 0), .int .i64 (Int.ofNat 128)]
 (M ++ [AObj.cells [.int .i64 p00, .string p01, .string p02, .slice p03 p03n p03c, .int .i64 p04] 5 Mode.live]) .nilFunc M20 ∧
 ∃ (i21 : Int),
 ∃ (s22 : ByteArray),
 ∃ (s23 : ByteArray),
 ∃ (a24 : Option Addr),
 ∃ (n25 : Nat),
 ∃ (n26 : Nat),
 ∃ (i27 : Int),
 rdVar Try.prog M20 24 (List.length M) 0 =
 some (Value.agg (Array.mk [.int .i64 i21, .string s22, .string s23, .slice a24 n25 n26, .int .i64 i27])) ∧
 False) :
 wpRet Try.prog 61 true [] [.agg (Array.mk [.int .i64 p00, .string p01, .string p02, .slice p03 p03n p03c, .int .i64 p04])] M K := Eq.mpr (by kernel_rfl) h
theorem w63 {p00 : Int} {p01 p02 : ByteArray} {p03 : Option Addr} {p03n p03c : Nat} {p04 : Int} {M : Mem} {K : Value → Mem → Prop} (h : ∃ (s0 : ByteArray),
 rdVar Try.prog (M ++ [AObj.cells [.int .i64 p00, .string p01, .string p02, .slice p03 p03n p03c, .int .i64 p04] 5 Mode.live]) 9 (List.length M) 1 =
 some (Value.string s0) ∧
 cnd (eqS s0 (ByteArray.mk #[115, 101, 116]))
 ((∃ (x1 : FuncId),
 ∃ (M2 : List Value),
 ∃ (M3 : Mem),
 Ret Try.prog 57 [.int .i64 (Int.ofNat 0), .int .i64 (Int.ofNat 3), .int .i64 (Int.ofNat 3)]
 (M ++ [AObj.cells [.int .i64 p00, .string p01, .string p02, .slice p03 p03n p03c, .int .i64 p04] 5 Mode.live])
 (.func (Fn.func x1) (Array.mk []) (Array.mk M2)) M3 ∧
 ∃ (i4 : Int),
 ∃ (s5 : ByteArray),
 ∃ (s6 : ByteArray),
 ∃ (a7 : Option Addr),
 ∃ (n8 : Nat),
 ∃ (n9 : Nat),
 ∃ (i10 : Int),
 rdVar Try.prog M3 24 (List.length M) 0 =
 some (Value.agg (Array.mk [.int .i64 i4, .string s5, .string s6, .slice a7 n8 n9, .int .i64 i10])) ∧
 cnd (walksIn Try.prog x1)
 (∃ (a11 : Option Addr),
 ∃ (n12 : Nat),
 ∃ (n13 : Nat),
 ∃ (b14 : Bool),
 ∃ (M15 : Mem),
 Ret Try.prog x1
 (.agg (Array.mk [.int .i64 i4, .string s5, .string s6, .slice a7 n8 n9, .int .i64 i10]) :: M2) M3
 (.tuple (Array.mk [.slice a11 n12 n13, .bool b14])) M15 ∧
 (((List.length M <
 List.length
 (M ++
 [AObj.cells [.int .i64 p00, .string p01, .string p02, .slice p03 p03n p03c, .int .i64 p04]
 5 Mode.live]) →
 M3[List.length M]? =
 (M ++
 [AObj.cells [.int .i64 p00, .string p01, .string p02, .slice p03 p03n p03c, .int .i64 p04]
 5 Mode.live])[List.length M]?) ∧
 True) ∧
 True) ∧
 K (.tuple (Array.mk [.slice a11 n12 n13, .bool b14])) M15)
 False) ∨
 ∃ (M20 : Mem),
 Ret Try.prog 57 [.int .i64 (Int.ofNat 0), .int .i64 (Int.ofNat 3), .int .i64 (Int.ofNat 3)]
 (M ++ [AObj.cells [.int .i64 p00, .string p01, .string p02, .slice p03 p03n p03c, .int .i64 p04] 5 Mode.live]) .nilFunc M20 ∧
 ∃ (i21 : Int),
 ∃ (s22 : ByteArray),
 ∃ (s23 : ByteArray),
 ∃ (a24 : Option Addr),
 ∃ (n25 : Nat),
 ∃ (n26 : Nat),
 ∃ (i27 : Int),
 rdVar Try.prog M20 24 (List.length M) 0 =
 some (Value.agg (Array.mk [.int .i64 i21, .string s22, .string s23, .slice a24 n25 n26, .int .i64 i27])) ∧
 False)
 (∃ (s28 : ByteArray),
 rdVar Try.prog (M ++ [AObj.cells [.int .i64 p00, .string p01, .string p02, .slice p03 p03n p03c, .int .i64 p04] 5 Mode.live]) 9 (List.length M)
 1 =
 some (Value.string s28) ∧
 cnd (eqS s28 (ByteArray.mk #[110, 111, 116]))
 ((∃ (x29 : FuncId),
 ∃ (M30 : List Value),
 ∃ (M31 : Mem),
 Ret Try.prog 57 [.int .i64 (Int.ofNat 0), .int .i64 (Int.ofNat 1), .int .i64 (Int.ofNat 1)]
 (M ++ [AObj.cells [.int .i64 p00, .string p01, .string p02, .slice p03 p03n p03c, .int .i64 p04] 5 Mode.live])
 (.func (Fn.func x29) (Array.mk []) (Array.mk M30)) M31 ∧
 ∃ (i32 : Int),
 ∃ (s33 : ByteArray),
 ∃ (s34 : ByteArray),
 ∃ (a35 : Option Addr),
 ∃ (n36 : Nat),
 ∃ (n37 : Nat),
 ∃ (i38 : Int),
 rdVar Try.prog M31 24 (List.length M) 0 =
 some (Value.agg (Array.mk [.int .i64 i32, .string s33, .string s34, .slice a35 n36 n37, .int .i64 i38])) ∧
 cnd (walksIn Try.prog x29)
 (∃ (a39 : Option Addr),
 ∃ (n40 : Nat),
 ∃ (n41 : Nat),
 ∃ (b42 : Bool),
 ∃ (M43 : Mem),
 Ret Try.prog x29
 (.agg
 (Array.mk [.int .i64 i32, .string s33, .string s34, .slice a35 n36 n37, .int .i64 i38]) ::
 M30)
 M31 (.tuple (Array.mk [.slice a39 n40 n41, .bool b42])) M43 ∧
 (((List.length M <
 List.length
 (M ++
 [AObj.cells
 [.int .i64 p00, .string p01, .string p02, .slice p03 p03n p03c, .int .i64 p04] 5
 Mode.live]) →
 M31[List.length M]? =
 (M ++
 [AObj.cells
 [.int .i64 p00, .string p01, .string p02, .slice p03 p03n p03c, .int .i64 p04] 5
 Mode.live])[List.length M]?) ∧
 True) ∧
 True) ∧
 K (.tuple (Array.mk [.slice a39 n40 n41, .bool b42])) M43)
 False) ∨
 ∃ (M48 : Mem),
 Ret Try.prog 57 [.int .i64 (Int.ofNat 0), .int .i64 (Int.ofNat 1), .int .i64 (Int.ofNat 1)]
 (M ++ [AObj.cells [.int .i64 p00, .string p01, .string p02, .slice p03 p03n p03c, .int .i64 p04] 5 Mode.live]) .nilFunc M48 ∧
 ∃ (i49 : Int),
 ∃ (s50 : ByteArray),
 ∃ (s51 : ByteArray),
 ∃ (a52 : Option Addr),
 ∃ (n53 : Nat),
 ∃ (n54 : Nat),
 ∃ (i55 : Int),
 rdVar Try.prog M48 24 (List.length M) 0 =
 some (Value.agg (Array.mk [.int .i64 i49, .string s50, .string s51, .slice a52 n53 n54, .int .i64 i55])) ∧
 False)
 (∃ (s56 : ByteArray),
 rdVar Try.prog (M ++ [AObj.cells [.int .i64 p00, .string p01, .string p02, .slice p03 p03n p03c, .int .i64 p04] 5 Mode.live]) 9
 (List.length M) 1 =
 some (Value.string s56) ∧
 ∃ (b57 : Bool),
 ∃ (M58 : Mem),
 Ret Try.prog 89 [.string s56]
 (M ++ [AObj.cells [.int .i64 p00, .string p01, .string p02, .slice p03 p03n p03c, .int .i64 p04] 5 Mode.live]) (.bool b57)
 M58 ∧
 cnd b57
 ((∃ (x59 : FuncId),
 ∃ (M60 : List Value),
 ∃ (M61 : Mem),
 Ret Try.prog 57 [.int .i64 (Int.ofNat 0), .int .i64 (Int.ofNat 1), .int .i64 (Int.ofNat 1)] M58
 (.func (Fn.func x59) (Array.mk []) (Array.mk M60)) M61 ∧
 ∃ (i62 : Int),
 ∃ (s63 : ByteArray),
 ∃ (s64 : ByteArray),
 ∃ (a65 : Option Addr),
 ∃ (n66 : Nat),
 ∃ (n67 : Nat),
 ∃ (i68 : Int),
 rdVar Try.prog M61 24 (List.length M) 0 =
 some
 (.agg
 (Array.mk [.int .i64 i62, .string s63, .string s64, .slice a65 n66 n67, .int .i64 i68])) ∧
 cnd (walksIn Try.prog x59)
 (∃ (a69 : Option Addr),
 ∃ (n70 : Nat),
 ∃ (n71 : Nat),
 ∃ (b72 : Bool),
 ∃ (M73 : Mem),
 Ret Try.prog x59
 (.agg
 (Array.mk
 [.int .i64 i62, .string s63, .string s64, .slice a65 n66 n67,
 .int .i64 i68]) ::
 M60)
 M61 (.tuple (Array.mk [.slice a69 n70 n71, .bool b72])) M73 ∧
 (((List.length M < List.length M58 → M61[List.length M]? = M58[List.length M]?) ∧ True) ∧ True) ∧
 K (.tuple (Array.mk [.slice a69 n70 n71, .bool b72])) M73)
 False) ∨
 ∃ (M78 : Mem),
 Ret Try.prog 57 [.int .i64 (Int.ofNat 0), .int .i64 (Int.ofNat 1), .int .i64 (Int.ofNat 1)] M58 .nilFunc M78 ∧
 ∃ (i79 : Int),
 ∃ (s80 : ByteArray),
 ∃ (s81 : ByteArray),
 ∃ (a82 : Option Addr),
 ∃ (n83 : Nat),
 ∃ (n84 : Nat),
 ∃ (i85 : Int),
 rdVar Try.prog M78 24 (List.length M) 0 =
 some
 (.agg (Array.mk [.int .i64 i79, .string s80, .string s81, .slice a82 n83 n84, .int .i64 i85])) ∧
 False)
 ((∃ (x86 : FuncId),
 ∃ (M87 : List Value),
 ∃ (M88 : Mem),
 Ret Try.prog 57 [.int .i64 (Int.ofNat 0), .int .i64 (Int.ofNat 2), .int .i64 (Int.ofNat 2)] M58
 (.func (Fn.func x86) (Array.mk []) (Array.mk M87)) M88 ∧
 ∃ (i89 : Int),
 ∃ (s90 : ByteArray),
 ∃ (s91 : ByteArray),
 ∃ (a92 : Option Addr),
 ∃ (n93 : Nat),
 ∃ (n94 : Nat),
 ∃ (i95 : Int),
 rdVar Try.prog M88 24 (List.length M) 0 =
 some
 (.agg
 (Array.mk [.int .i64 i89, .string s90, .string s91, .slice a92 n93 n94, .int .i64 i95])) ∧
 cnd (walksIn Try.prog x86)
 (∃ (a96 : Option Addr),
 ∃ (n97 : Nat),
 ∃ (n98 : Nat),
 ∃ (b99 : Bool),
 ∃ (M100 : Mem),
 Ret Try.prog x86
 (.agg
 (Array.mk
 [.int .i64 i89, .string s90, .string s91, .slice a92 n93 n94,
 .int .i64 i95]) ::
 M87)
 M88 (.tuple (Array.mk [.slice a96 n97 n98, .bool b99])) M100 ∧
 (((List.length M < List.length M58 → M88[List.length M]? = M58[List.length M]?) ∧ True) ∧ True) ∧
 K (.tuple (Array.mk [.slice a96 n97 n98, .bool b99])) M100)
 False) ∨
 ∃ (M105 : Mem),
 Ret Try.prog 57 [.int .i64 (Int.ofNat 0), .int .i64 (Int.ofNat 2), .int .i64 (Int.ofNat 2)] M58 .nilFunc M105 ∧
 ∃ (i106 : Int),
 ∃ (s107 : ByteArray),
 ∃ (s108 : ByteArray),
 ∃ (a109 : Option Addr),
 ∃ (n110 : Nat),
 ∃ (n111 : Nat),
 ∃ (i112 : Int),
 rdVar Try.prog M105 24 (List.length M) 0 =
 some
 (.agg
 (Array.mk [.int .i64 i106, .string s107, .string s108, .slice a109 n110 n111, .int .i64 i112])) ∧
 False)))) :
 wpRet Try.prog 63 true [] [.agg (Array.mk [.int .i64 p00, .string p01, .string p02, .slice p03 p03n p03c, .int .i64 p04])] M K := Eq.mpr (by kernel_rfl) h
theorem w62 {p0 : ByteArray} {M : Mem} {K : Value → Mem → Prop} (h : ∃ (b0 : Bool),
 ∃ (M1 : Mem),
 Ret Try.prog 89 [.string p0] M (.bool b0) M1 ∧
 cnd b0 (K (.bool true) M1)
 ((∃ (x2 : FuncId),
 ∃ (M3 : List Value),
 ∃ (M4 : Mem),
 Ret Try.prog 64 [.slice (some (.mk (List.length M1) 0 none)) 10 10]
 (M1 ++
 [AObj.cells
 [.string (ByteArray.mk #[43]), .string (ByteArray.mk #[45]), .string (ByteArray.mk #[42]), .string (ByteArray.mk #[60]),
 .string (ByteArray.mk #[60, 61]), .string (ByteArray.mk #[61]), .string (ByteArray.mk #[110, 111, 116]),
 .string (ByteArray.mk #[104, 97, 115]), .string (ByteArray.mk #[103, 101, 116]), .string (ByteArray.mk #[115, 101, 116])]
 1 Mode.live])
 (.func (Fn.func x2) (Array.mk []) (Array.mk M3)) M4 ∧
 cnd (walksIn Try.prog x2) (∃ (b5 : Bool), ∃ (M6 : Mem), Ret Try.prog x2 (.string p0 :: M3) M4 (.bool b5) M6 ∧ K (.bool b5) M6) False) ∨
 ∃ (M7 : Mem),
 Ret Try.prog 64 [.slice (some (.mk (List.length M1) 0 none)) 10 10]
 (M1 ++
 [AObj.cells
 [.string (ByteArray.mk #[43]), .string (ByteArray.mk #[45]), .string (ByteArray.mk #[42]), .string (ByteArray.mk #[60]),
 .string (ByteArray.mk #[60, 61]), .string (ByteArray.mk #[61]), .string (ByteArray.mk #[110, 111, 116]), .string (ByteArray.mk #[104, 97, 115]),
 .string (ByteArray.mk #[103, 101, 116]), .string (ByteArray.mk #[115, 101, 116])]
 1 Mode.live])
 .nilFunc M7 ∧
 False)) :
 wpRet Try.prog 62 true [] [.string p0] M K := Eq.mpr (by kernel_rfl) h
theorem w89 {p0 : ByteArray} {M : Mem} {K : Value → Mem → Prop} (h : (∃ (x0 : FuncId),
 ∃ (M1 : List Value),
 ∃ (M2 : Mem),
 Ret Try.prog 64 [.slice (some (.mk (List.length M) 0 none)) 6 6]
 (M ++
 [AObj.cells
 [.string (ByteArray.mk #[105, 110, 116, 63]), .string (ByteArray.mk #[98, 111, 111, 108, 63]), .string (ByteArray.mk #[115, 116, 114, 63]),
 .string (ByteArray.mk #[100, 105, 99, 116, 63]), .string (ByteArray.mk #[102, 117, 110, 63]), .string (ByteArray.mk #[110, 117, 108, 108, 63])]
 1 Mode.live])
 (.func (Fn.func x0) (Array.mk []) (Array.mk M1)) M2 ∧
 cnd (walksIn Try.prog x0) (∃ (b3 : Bool), ∃ (M4 : Mem), Ret Try.prog x0 (.string p0 :: M1) M2 (.bool b3) M4 ∧ K (.bool b3) M4) False) ∨
 ∃ (M5 : Mem),
 Ret Try.prog 64 [.slice (some (.mk (List.length M) 0 none)) 6 6]
 (M ++
 [AObj.cells
 [.string (ByteArray.mk #[105, 110, 116, 63]), .string (ByteArray.mk #[98, 111, 111, 108, 63]), .string (ByteArray.mk #[115, 116, 114, 63]),
 .string (ByteArray.mk #[100, 105, 99, 116, 63]), .string (ByteArray.mk #[102, 117, 110, 63]), .string (ByteArray.mk #[110, 117, 108, 108, 63])]
 1 Mode.live])
 .nilFunc M5 ∧
 False) :
 wpRet Try.prog 89 true [] [.string p0] M K := Eq.mpr (by kernel_rfl) h
theorem w60 {p0 : ByteArray} {M : Mem} {K : Value → Mem → Prop} (h : K (.bool true) M) :
 wpRet Try.prog 60 true [] [.string p0] M K := Eq.mpr (by kernel_rfl) h
theorem w65 {p0 p1 : Int} {M : Mem} {K : Value → Mem → Prop} (h : ∃ (x0 : Nat → Value),
 ∃ (a1 : Option Addr),
 ∃ (n2 : Nat),
 ∃ (n3 : Nat),
 ∃ (M4 : Mem),
 Lp Try.prog (Env.fn 65) [1, 1, 0, 1, 0]
 (St.mk
 [.int .i64 p0, .int .i64 p1, undef, undef, .slice none 0 0, .slice none 0 0,
 .int .i64 (Int.ofNat 0), undef, undef, undef, undef, undef,
 undef, undef, undef, undef, undef]
 [] M false)
 (.exit 0)
 (St.mk
 [.int .i64 p0, .int .i64 p1, undef, undef, .slice none 0 0, .slice a1 n2 n3, x0 6, x0 7, x0 8, x0 9,
 x0 10, x0 11, x0 12, x0 13, x0 14, x0 15, undef]
 [] M4 false) ∧
 K (.slice a1 n2 n3) M4) :
 wpRet Try.prog 65 true ann65 [.int .i64 p0, .int .i64 p1] M K := Eq.mpr (by kernel_rfl) h
theorem wl65_0 {ut0 ut1 : Int} {uv2 uv3 uv4 uv16 : Value} (t5 : Option Addr) (t5n t5c : Nat) (t6 : Int) (w : Nat → Value) (d : List ADef) (rc : Bool) (M : Mem) (Q : AExit → St → Prop) (h : cnd (!leF ut1 t6)
 (∃ (a0 : Option Addr),
 ∃ (n1 : Nat),
 ∃ (n2 : Nat),
 ∃ (M3 : Mem),
 appendA Try.prog (M ++ [AObj.cells [.int .i64 ut0] 1 Mode.live]) 22 22 (.slice t5 t5n t5c) (.slice (some (.mk (List.length M) 0 none)) 1 1) =
 some (Value.slice a0 n1 n2, M3) ∧
 Q .normal
 (St.mk
 [.int .i64 ut0, .int .i64 ut1, uv2, uv3, uv4, .slice a0 n1 n2, .int .i64 (wrapF .i64 (Int.add t6 (Int.ofNat 1))),
 .int .i64 t6, .int .i64 ut1, .bool true, .int .i64 t6, .int .i64 (wrapF .i64 (Int.add t6 (Int.ofNat 1))),
 .slice t5 t5n t5c, .int .i64 ut0, .slice (some (.mk (List.length M) 0 none)) 1 1, .slice a0 n1 n2, uv16]
 d M3 rc))
 (Q (.exit 0)
 (St.mk
 [.int .i64 ut0, .int .i64 ut1, uv2, uv3, uv4, .slice t5 t5n t5c, .int .i64 t6, .int .i64 t6, .int .i64 ut1,
 .bool false, w 10, w 11, w 12, w 13, w 14, w 15, uv16]
 d M rc))) :
 wpAt Try.prog (Env.fn 65) true ann65 [1, 1, 0, 1, 0, 0]
 (St.mk [.int .i64 ut0, .int .i64 ut1, uv2, uv3, uv4, .slice t5 t5n t5c, .int .i64 t6, w 7, w 8, w 9, w 10, w 11, w 12, w 13, w 14, w 15, uv16] d M
 rc)
 Q := Eq.mpr (by kernel_rfl) h
def I65_0 (ut0 ut1 : Int) (uv2 uv3 uv4 uv16 : Value) (d : List ADef) (rc : Bool) (Inv : Nat → Option Addr → Nat → Nat → Int → Mem → Prop) (n : Nat) (s : St) : Prop := ∃ (t5 : Option Addr) (t5n t5c : Nat) (t6 : Int) (w : Nat → Value) (M : Mem), s = (St.mk [.int .i64 ut0, .int .i64 ut1, uv2, uv3, uv4, .slice t5 t5n t5c, .int .i64 t6, w 7, w 8, w 9, w 10, w 11, w 12, w 13, w 14, w 15, uv16] d M rc) ∧ Inv n t5 t5n t5c t6 M
theorem I65_0.mk {ut0 ut1 : Int} {uv2 uv3 uv4 uv16 : Value} {d : List ADef} {rc : Bool} {Inv : Nat → Option Addr → Nat → Nat → Int → Mem → Prop} {n : Nat} {t5 : Option Addr} {t5n t5c : Nat} {t6 : Int} {v7 v8 v9 v10 v11 v12 v13 v14 v15 : Value} {M : Mem} (hI : Inv n t5 t5n t5c t6 M) : I65_0 ut0 ut1 uv2 uv3 uv4 uv16 d rc Inv n (St.mk [.int .i64 ut0, .int .i64 ut1, uv2, uv3, uv4, .slice t5 t5n t5c, .int .i64 t6, v7, v8, v9, v10, v11, v12, v13, v14, v15, uv16] d M rc) := ⟨_, _, _, _, (fun i => List.getD ([.int .i64 ut0, .int .i64 ut1, uv2, uv3, uv4, .slice t5 t5n t5c, .int .i64 t6, v7, v8, v9, v10, v11, v12, v13, v14, v15, uv16]) i undef), _, rfl, hI⟩
def X65_0 (ut0 ut1 : Int) (uv2 uv3 uv4 uv16 : Value) (d : List ADef) (rc : Bool) (R0 : Option Addr → Nat → Nat → Mem → Prop) (e : AExit) (s : St) : Prop := (e = (.exit 0) ∧ ∃ (ot5 : Option Addr) (ot5n ot5c : Nat) (w : Nat → Value) (M : Mem), s = (St.mk [.int .i64 ut0, .int .i64 ut1, uv2, uv3, uv4, .slice ot5 ot5n ot5c, w 6, w 7, w 8, w 9, w 10, w 11, w 12, w 13, w 14, w 15, uv16] d M rc) ∧ R0 ot5 ot5n ot5c M)
theorem X65_0.mk0 {ut0 ut1 : Int} {uv2 uv3 uv4 uv16 : Value} {d : List ADef} {rc : Bool} {R0 : Option Addr → Nat → Nat → Mem → Prop} {ot5 : Option Addr} {ot5n ot5c : Nat} {ov6 ov7 ov8 ov9 ov10 ov11 ov12 ov13 ov14 ov15 : Value} {M : Mem} (hI : R0 ot5 ot5n ot5c M) : X65_0 ut0 ut1 uv2 uv3 uv4 uv16 d rc R0 (.exit 0) (St.mk [.int .i64 ut0, .int .i64 ut1, uv2, uv3, uv4, .slice ot5 ot5n ot5c, ov6, ov7, ov8, ov9, ov10, ov11, ov12, ov13, ov14, ov15, uv16] d M rc) := ⟨rfl, _, _, _, (fun i => List.getD ([.int .i64 ut0, .int .i64 ut1, uv2, uv3, uv4, .slice ot5 ot5n ot5c, ov6, ov7, ov8, ov9, ov10, ov11, ov12, ov13, ov14, ov15, uv16]) i undef), _, rfl, hI⟩
theorem loop65_0 {ut0 ut1 : Int} {uv2 uv3 uv4 uv16 : Value} {d : List ADef} {rc : Bool} (Inv : Nat → Option Addr → Nat → Nat → Int → Mem → Prop) (R0 : Option Addr → Nat → Nat → Mem → Prop)
 (step : ∀ (n : Nat) (t5 : Option Addr) (t5n t5c : Nat) (t6 : Int) (M : Mem), Inv n t5 t5n t5c t6 M →
 cnd (!leF ut1 t6)
 (∃ (a0 : Option Addr), ∃ (n1 : Nat), ∃ (n2 : Nat), ∃ (M3 : Mem), (appendA Try.prog (M ++ [AObj.cells [.int .i64 ut0] 1 Mode.live]) 22 22 (.slice t5 t5n t5c) (.slice (some (.mk (List.length M) 0 none)) 1 1) =
 some (Value.slice a0 n1 n2, M3)) ∧ ∃ m, m < n ∧ Inv m (a0) (n1) (n2) (wrapF .i64 (Int.add t6 (Int.ofNat 1))) (M3))
 (R0 (t5) (t5n) (t5c) (M)))
 {n : Nat} {t5 : Option Addr} {t5n t5c : Nat} {t6 : Int} {v7 v8 v9 v10 v11 v12 v13 v14 v15 : Value} {M : Mem} (h0 : Inv n t5 t5n t5c t6 M) :
 (∃ (w : Nat → Value) (ot5 : Option Addr) (ot5n ot5c : Nat) (M' : Mem), Lp Try.prog (Env.fn 65) [1, 1, 0, 1, 0] (St.mk [.int .i64 ut0, .int .i64 ut1, uv2, uv3, uv4, .slice t5 t5n t5c, .int .i64 t6, v7, v8, v9, v10, v11, v12, v13, v14, v15, uv16] d M rc) (.exit 0) (St.mk [.int .i64 ut0, .int .i64 ut1, uv2, uv3, uv4, .slice ot5 ot5n ot5c, w 6, w 7, w 8, w 9, w 10, w 11, w 12, w 13, w 14, w 15, uv16] d M' rc) ∧ R0 ot5 ot5n ot5c M') := by
 have mono : ∀ (n : Nat) (t5 : Option Addr) (t5n t5c : Nat) (t6 : Int) (w : Nat → Value) (M : Mem) (Q : AExit → St → Prop) (hN : ∀ {m : Nat} {t5 : Option Addr} {t5n t5c : Nat} {t6 : Int} {v7 v8 v9 v10 v11 v12 v13 v14 v15 : Value} {M : Mem}, m < n → Inv m t5 t5n t5c t6 M → Q .normal (St.mk [.int .i64 ut0, .int .i64 ut1, uv2, uv3, uv4, .slice t5 t5n t5c, .int .i64 t6, v7, v8, v9, v10, v11, v12, v13, v14, v15, uv16] d M rc)) (hE0 : ∀ {ot5 : Option Addr} {ot5n ot5c : Nat} {ov6 ov7 ov8 ov9 ov10 ov11 ov12 ov13 ov14 ov15 : Value} {M : Mem}, R0 ot5 ot5n ot5c M → Q (.exit 0) (St.mk [.int .i64 ut0, .int .i64 ut1, uv2, uv3, uv4, .slice ot5 ot5n ot5c, ov6, ov7, ov8, ov9, ov10, ov11, ov12, ov13, ov14, ov15, uv16] d M rc)) , Inv n t5 t5n t5c t6 M → wpAt Try.prog (Env.fn 65) true ann65 [1, 1, 0, 1, 0, 0] (St.mk [.int .i64 ut0, .int .i64 ut1, uv2, uv3, uv4, .slice t5 t5n t5c, .int .i64 t6, w 7, w 8, w 9, w 10, w 11, w 12, w 13, w 14, w 15, uv16] d M rc) Q :=
 fun n t5 t5n t5c t6 w M Q hN hE0 hI => wl65_0 _ _ _ _ w _ _ _ Q ((cnd_mono (fun ⟨a0, h⟩ => ⟨a0, (fun ⟨n1, h⟩ => ⟨n1, (fun ⟨n2, h⟩ => ⟨n2, (fun ⟨M3, h⟩ => ⟨M3, (fun ⟨a, h⟩ => ⟨a, (fun ⟨_, hm, hi⟩ => hN hm hi) h⟩) h⟩) h⟩) h⟩) h⟩) hE0) (step n t5 t5n t5c t6 M hI))
 have key := loop_lp (P := Try.prog) (E := Env.fn 65) (sym := true) (ann := ann65) (p := [1, 1, 0, 1, 0]) (body := stepC (codeOf Try.prog 65 [1, 1, 0, 1, 0]) 0) (by kernel_rfl) (I65_0 ut0 ut1 uv2 uv3 uv4 uv16 d rc Inv) (X65_0 ut0 ut1 uv2 uv3 uv4 uv16 d rc R0) (by
 rintro n s ⟨_, _, _, _, _, _, rfl, hI⟩
 exact mono n _ _ _ _ _ _ _ (fun hm hi => ⟨_, hm, .mk hi⟩) (fun hr => .mk0 hr) hI)
 obtain ⟨e, s', h1, hX⟩ := key n _ (.mk h0)
 rcases hX with ⟨rfl, _, _, _, _, _, rfl, h2⟩
 · exact ⟨_, _, _, _, _, h1, h2⟩
theorem w66 {p0 : ByteArray} {M : Mem} {K : Value → Mem → Prop} (h : cnd (eqS p0 (ByteArray.mk #[115, 101, 116])) (K (.int .i64 (Int.ofNat 3)) M)
 (cnd (eqS p0 (ByteArray.mk #[110, 111, 116])) (K (.int .i64 (Int.ofNat 1)) M)
 (∃ (a0 : Option Addr),
 ∃ (n1 : Nat),
 ∃ (n2 : Nat),
 ∃ (M3 : Mem),
 Ret Try.prog 91 [] M (.slice a0 n1 n2) M3 ∧
 ∃ (b4 : Bool),
 ∃ (M5 : Mem),
 Ret Try.prog 41 [.string p0, .slice a0 n1 n2] M3 (.bool b4) M5 ∧
 cnd b4 (K (.int .i64 (Int.ofNat 1)) M5) (K (.int .i64 (Int.ofNat 2)) M5)))) :
 wpRet Try.prog 66 true [] [.string p0] M K := Eq.mpr (by kernel_rfl) h
theorem w68 {M : Mem} {K : Value → Mem → Prop} (h : ∃ (a0 : Option Addr),
 ∃ (n1 : Nat),
 ∃ (n2 : Nat),
 ∃ (M3 : Mem),
 Ret Try.prog 91 []
 (M ++
 [AObj.cells
 [.string (ByteArray.mk #[43]), .string (ByteArray.mk #[45]), .string (ByteArray.mk #[42]), .string (ByteArray.mk #[60]),
 .string (ByteArray.mk #[60, 61]), .string (ByteArray.mk #[61]), .string (ByteArray.mk #[110, 111, 116]), .string (ByteArray.mk #[104, 97, 115]),
 .string (ByteArray.mk #[103, 101, 116]), .string (ByteArray.mk #[115, 101, 116])]
 1 Mode.live])
 (.slice a0 n1 n2) M3 ∧
 ∃ (a4 : Option Addr),
 ∃ (n5 : Nat),
 ∃ (n6 : Nat),
 ∃ (M7 : Mem),
 appendA Try.prog M3 53 53 (.slice (some (.mk (List.length M) 0 none)) 10 10) (.slice a0 n1 n2) = some (.slice a4 n5 n6, M7) ∧ K (.slice a4 n5 n6) M7) :
 wpRet Try.prog 68 true [] [] M K := Eq.mpr (by kernel_rfl) h
theorem w69 {M : Mem} {K : Value → Mem → Prop} (h : K (.slice (some (.mk (List.length M) 0 none)) 7 7)
 (M ++
 [AObj.cells
 [.string (ByteArray.mk #[84, 111, 112]), .string (ByteArray.mk #[73, 110, 116]), .string (ByteArray.mk #[66, 111, 111, 108]),
 .string (ByteArray.mk #[83, 116, 114]), .string (ByteArray.mk #[68, 105, 99, 116]), .string (ByteArray.mk #[70, 117, 110]),
 .string (ByteArray.mk #[78, 117, 108, 108])]
 1 Mode.live])) :
 wpRet Try.prog 69 true [] [] M K := Eq.mpr (by kernel_rfl) h
theorem w91 {M : Mem} {K : Value → Mem → Prop} (h : K (.slice (some (.mk (List.length M) 0 none)) 6 6)
 (M ++
 [AObj.cells
 [.string (ByteArray.mk #[105, 110, 116, 63]), .string (ByteArray.mk #[98, 111, 111, 108, 63]), .string (ByteArray.mk #[115, 116, 114, 63]),
 .string (ByteArray.mk #[100, 105, 99, 116, 63]), .string (ByteArray.mk #[102, 117, 110, 63]), .string (ByteArray.mk #[110, 117, 108, 108, 63])]
 1 Mode.live])) :
 wpRet Try.prog 91 true [] [] M K := Eq.mpr (by kernel_rfl) h
theorem w56 {p0 p1 : Int} {M : Mem} {K : Value → Mem → Prop} (h : (∃ (x0 : FuncId),
 ∃ (M1 : List Value),
 ∃ (M2 : Mem),
 Ret Try.prog 57 [.int .i64 p0, .int .i64 p1, .int .i64 (Int.ofNat 64)] M (.func (Fn.func x0) (Array.mk []) (Array.mk M1)) M2 ∧
 K (.func (Fn.func x0) (Array.mk []) (Array.mk M1)) M2) ∨
 ∃ (M3 : Mem), Ret Try.prog 57 [.int .i64 p0, .int .i64 p1, .int .i64 (Int.ofNat 64)] M .nilFunc M3 ∧ K .nilFunc M3) :
 wpRet Try.prog 56 true [] [.int .i64 p0, .int .i64 p1] M K := Eq.mpr (by kernel_rfl) h
theorem w42 {p0 p1 : Int} {c0 : Nat} {M : Mem} {K : Value → Mem → Prop} (h : ∃ (i0 : Int),
 rdVar Try.prog M 3 c0 0 = some (.int .i64 i0) ∧
 cnd (leF p0 i0) (∃ (i1 : Int), rdVar Try.prog M 3 c0 0 = some (.int .i64 i1) ∧ K (.bool (leF i1 p1)) M) (K (.bool false) M)) :
 wpRet Try.prog 42 true [] [.int .i64 p0, .int .i64 p1, .pointer (some (.mk c0 0 none))] M K := Eq.mpr (by kernel_rfl) h
theorem w18 {p0 p1 : Int} {M : Mem} {K : Value → Mem → Prop} (h : cnd (eqF p1 (Int.ofNat 0))
 (∃ (b0 : Bool),
 ∃ (M1 : Mem),
 Ret Try.prog 42 [.int .i64 (Int.ofNat 0), .int .i64 (Int.ofNat 12), .pointer (some (.mk (List.length M) 0 none))]
 (M ++ [AObj.cells [.int .i64 p0] 1 Mode.live]) (.bool b0) M1 ∧
 K (.bool b0) M1)
 (cnd (eqF p1 (Int.ofNat 1))
 (∃ (b2 : Bool),
 ∃ (M3 : Mem),
 Ret Try.prog 42 [.int .i64 (Int.ofNat 13), .int .i64 (Int.ofNat 13), .pointer (some (.mk (List.length M) 0 none))]
 (M ++ [AObj.cells [.int .i64 p0] 1 Mode.live]) (.bool b2) M3 ∧
 K (.bool b2) M3)
 (cnd (eqF p1 (Int.ofNat 2))
 (∃ (b4 : Bool),
 ∃ (M5 : Mem),
 Ret Try.prog 42 [.int .i64 (Int.ofNat 14), .int .i64 (Int.ofNat 18), .pointer (some (.mk (List.length M) 0 none))]
 (M ++ [AObj.cells [.int .i64 p0] 1 Mode.live]) (.bool b4) M5 ∧
 K (.bool b4) M5)
 (cnd (eqF p1 (Int.ofNat 3))
 (∃ (b6 : Bool),
 ∃ (M7 : Mem),
 Ret Try.prog 42 [.int .i64 (Int.ofNat 19), .int .i64 (Int.ofNat 30), .pointer (some (.mk (List.length M) 0 none))]
 (M ++ [AObj.cells [.int .i64 p0] 1 Mode.live]) (.bool b6) M7 ∧
 K (.bool b6) M7)
 (cnd (eqF p1 (Int.ofNat 5))
 (∃ (b8 : Bool),
 ∃ (M9 : Mem),
 Ret Try.prog 42 [.int .i64 (Int.ofNat 33), .int .i64 (Int.ofNat 35), .pointer (some (.mk (List.length M) 0 none))]
 (M ++ [AObj.cells [.int .i64 p0] 1 Mode.live]) (.bool b8) M9 ∧
 cnd b8 (K (.bool true) M9)
 (∃ (i10 : Int),
 rdVar Try.prog M9 3 (List.length M) 0 = some (.int .i64 i10) ∧
 ∃ (b11 : Bool), ∃ (M12 : Mem), Ret Try.prog 18 [.int .i64 i10, .int .i64 (Int.ofNat 4)] M9 (.bool b11) M12 ∧ K (.bool b11) M12))
 (cnd (eqF p1 (Int.ofNat 4))
 (∃ (b13 : Bool),
 ∃ (M14 : Mem),
 Ret Try.prog 42 [.int .i64 (Int.ofNat 0), .int .i64 (Int.ofNat 5), .pointer (some (.mk (List.length M) 0 none))]
 (M ++ [AObj.cells [.int .i64 p0] 1 Mode.live]) (.bool b13) M14 ∧
 cnd b13 (K (.bool true) M14)
 (∃ (b15 : Bool),
 ∃ (M16 : Mem),
 Ret Try.prog 42 [.int .i64 (Int.ofNat 31), .int .i64 (Int.ofNat 32), .pointer (some (.mk (List.length M) 0 none))] M14
 (.bool b15) M16 ∧
 K (.bool b15) M16))
 (K (.bool false) (M ++ [AObj.cells [.int .i64 p0] 1 Mode.live])))))))) :
 wpRet Try.prog 18 true [] [.int .i64 p0, .int .i64 p1] M K := Eq.mpr (by kernel_rfl) h
theorem w19 {p0 p1 : Int} {M : Mem} {K : Value → Mem → Prop} (h : cnd (eqF p1 (Int.ofNat 0)) (cnd (leF (Int.ofNat 0) p0) (K (.bool (leF p0 (Int.ofNat 12))) M) (K (.bool false) M))
 (cnd (eqF p1 (Int.ofNat 1)) (K (.bool (eqF p0 (Int.ofNat 13))) M)
 (cnd (eqF p1 (Int.ofNat 2)) (cnd (leF (Int.ofNat 14) p0) (K (.bool (leF p0 (Int.ofNat 18))) M) (K (.bool false) M))
 (cnd (eqF p1 (Int.ofNat 3)) (cnd (leF (Int.ofNat 19) p0) (K (.bool (leF p0 (Int.ofNat 30))) M) (K (.bool false) M))
 (cnd (eqF p1 (Int.ofNat 4))
 (cnd (leF (Int.ofNat 0) p0) (cnd (leF p0 (Int.ofNat 5)) (K (.bool true) M) (cnd (eqF p0 (Int.ofNat 31)) (K (.bool true) M) (K (.bool (eqF p0 (Int.ofNat 32))) M)))
 (cnd (eqF p0 (Int.ofNat 31)) (K (.bool true) M) (K (.bool (eqF p0 (Int.ofNat 32))) M)))
 (cnd (eqF p1 (Int.ofNat 5))
 (∃ (b0 : Bool),
 ∃ (M1 : Mem),
 Ret Try.prog 19 [.int .i64 p0, .int .i64 (Int.ofNat 4)] M (.bool b0) M1 ∧
 cnd b0 (K (.bool true) M1) (cnd (leF (Int.ofNat 33) p0) (K (.bool (leF p0 (Int.ofNat 35))) M1) (K (.bool false) M1)))
 (K (.bool false) M))))))) :
 wpRet Try.prog 19 true [] [.int .i64 p0, .int .i64 p1] M K := Eq.mpr (by kernel_rfl) h
theorem w85 {p0 : Option Addr} {p0n p0c : Nat} {p1 : Int} {M : Mem} {K : Value → Mem → Prop} (h : cnd (!leF (Int.ofNat 0) p1) False
 (∃ (i0 : Int),
 ∃ (i1 : Int),
 ∃ (M2 : Mem),
 Ret Try.prog 101 [.int .u64 (Int.ofNat (p0n % 18446744073709551616)), .int .u64 (IntKind.wrap .u64 p1)] M
 (.tuple (Array.mk [.int .u64 i0, .int .u64 i1])) M2 ∧
 cnd (!leF i0 (Int.ofNat 0)) False
 (cnd (!leF i1 (Int.ofNat 9223372036854775807)) False
 (∃ (a3 : Option Addr),
 ∃ (n4 : Nat),
 ∃ (n5 : Nat),
 ∃ (M6 : Mem),
 makeA Try.prog M2 22 (.int .i64 (IntKind.wrap .i64 i1)) (.int .i64 (IntKind.wrap .i64 i1)) = some (.slice a3 n4 n5, M6) ∧
 ∃ (i7 : Int),
 ∃ (M8 : Mem),
 copyA Try.prog M6 22 (.slice a3 n4 n5) (.slice p0 p0n p0c) = some (.int .i64 i7, M8) ∧
 ∃ (x9 : Nat → Value),
 ∃ (M10 : Mem),
 Lp Try.prog (Env.fn 85) [1, 1, 1, 1, 1, 1, 0, 0]
 (St.mk
 [.slice p0 p0n p0c, .int .i64 p1, undef, undef, .slice none 0 0,
 .int .u64 i0, .int .u64 i1, .slice a3 n4 n5, .int .i64 i7, .int .i64 p1, .bool false,
 undef, .tuple (Array.mk [.int .u64 i0, .int .u64 i1]), .slice p0 p0n p0c,
 .int .i64 (Int.ofNat p0n), .int .u64 (Int.ofNat (p0n % 18446744073709551616)), .int .i64 p1,
 .int .u64 (IntKind.wrap .u64 p1), .tuple (Array.mk [.int .u64 i0, .int .u64 i1]),
 .int .u64 i0, .int .u64 i1, .int .u64 i0, .bool !leF i0 (Int.ofNat 0), .bool false,
 .int .u64 i1, .bool !leF i1 (Int.ofNat 9223372036854775807), .bool false, undef, .int .u64 i1,
 .int .i64 (IntKind.wrap .i64 i1), .slice a3 n4 n5, .slice a3 n4 n5, .slice p0 p0n p0c, .int .i64 i7,
 undef, undef, undef, undef, undef,
 undef, undef, undef, undef, undef,
 undef, undef, undef, undef]
 [] M8 false)
 (.exit 0)
 (St.mk
 [.slice p0 p0n p0c, .int .i64 p1, undef, undef, .slice none 0 0,
 .int .u64 i0, .int .u64 i1, .slice a3 n4 n5, x9 8, .int .i64 p1, .bool false,
 undef, .tuple (Array.mk [.int .u64 i0, .int .u64 i1]), .slice p0 p0n p0c,
 .int .i64 (Int.ofNat p0n), .int .u64 (Int.ofNat (p0n % 18446744073709551616)), .int .i64 p1,
 .int .u64 (IntKind.wrap .u64 p1), .tuple (Array.mk [.int .u64 i0, .int .u64 i1]),
 .int .u64 i0, .int .u64 i1, .int .u64 i0, .bool !leF i0 (Int.ofNat 0), .bool false,
 .int .u64 i1, .bool !leF i1 (Int.ofNat 9223372036854775807), .bool false, undef, .int .u64 i1,
 .int .i64 (IntKind.wrap .i64 i1), .slice a3 n4 n5, .slice a3 n4 n5, .slice p0 p0n p0c, .int .i64 i7,
 x9 34, x9 35, x9 36, x9 37, x9 38, x9 39, x9 40, x9 41, x9 42, x9 43, x9 44, x9 45, x9 46, undef]
 [] M10 false) ∧
 K (.slice a3 n4 n5) M10)))) :
 wpRet Try.prog 85 true ann85 [.slice p0 p0n p0c, .int .i64 p1] M K := Eq.mpr (by kernel_rfl) h
theorem wl85_0 {uv0 uv1 uv2 uv3 uv4 uv5 uv6 : Value} {ut7 : Option Addr} {ut7n ut7c : Nat} {uv9 uv10 uv11 uv12 uv13 uv14 uv15 uv16 uv17 uv18 uv19 uv20 uv21 uv22 uv23 uv24 uv25 uv26 uv27 uv28 uv29 uv30 uv31 uv32 uv33 uv47 : Value} (t8 : Int) (w : Nat → Value) (d : List ADef) (rc : Bool) (M : Mem) (Q : AExit → St → Prop) (h : cnd (!leF (Int.ofNat ut7n) t8)
 (∃ (a0 : Option Addr),
 ∃ (n1 : Nat),
 ∃ (n2 : Nat),
 sliceA Try.prog M 22 (.slice ut7 ut7n ut7c) (some (Value.int .i64 t8)) none none = some (.slice a0 n1 n2) ∧
 ∃ (a3 : Option Addr),
 ∃ (n4 : Nat),
 ∃ (n5 : Nat),
 sliceA Try.prog M 22 (.slice ut7 ut7n ut7c) none (some (Value.int .i64 t8)) none = some (.slice a3 n4 n5) ∧
 ∃ (i6 : Int),
 ∃ (M7 : Mem),
 copyA Try.prog M 22 (.slice a0 n1 n2) (.slice a3 n4 n5) = some (.int .i64 i6, M7) ∧
 True ∧
 Q .normal
 (St.mk
 [uv0, uv1, uv2, uv3, uv4, uv5, uv6, .slice ut7 ut7n ut7c, .int .i64 (wrapF .i64 (Int.add t8 i6)), uv9, uv10, uv11, uv12, uv13, uv14,
 uv15, uv16, uv17, uv18, uv19, uv20, uv21, uv22, uv23, uv24, uv25, uv26, uv27, uv28, uv29, uv30, uv31, uv32, uv33, .int .i64 t8,
 .slice ut7 ut7n ut7c, .int .i64 (Int.ofNat ut7n), .bool true, .int .i64 t8, .slice ut7 ut7n ut7c,
 .int .i64 t8, .slice a0 n1 n2, .slice ut7 ut7n ut7c, .int .i64 t8, .slice a3 n4 n5, .int .i64 i6,
 .int .i64 (wrapF .i64 (Int.add t8 i6)), uv47]
 d M7 rc))
 (Q (.exit 0)
 (St.mk
 [uv0, uv1, uv2, uv3, uv4, uv5, uv6, .slice ut7 ut7n ut7c, .int .i64 t8, uv9, uv10, uv11, uv12, uv13, uv14, uv15, uv16, uv17, uv18, uv19, uv20, uv21, uv22, uv23, uv24,
 uv25, uv26, uv27, uv28, uv29, uv30, uv31, uv32, uv33, .int .i64 t8, .slice ut7 ut7n ut7c, .int .i64 (Int.ofNat ut7n), .bool false, w 38, w 39, w 40,
 w 41, w 42, w 43, w 44, w 45, w 46, uv47]
 d M rc))) :
 wpAt Try.prog (Env.fn 85) true ann85 [1, 1, 1, 1, 1, 1, 0, 0, 0]
 (St.mk
 [uv0, uv1, uv2, uv3, uv4, uv5, uv6, .slice ut7 ut7n ut7c, .int .i64 t8, uv9, uv10, uv11, uv12, uv13, uv14, uv15, uv16, uv17, uv18, uv19, uv20, uv21, uv22, uv23, uv24,
 uv25, uv26, uv27, uv28, uv29, uv30, uv31, uv32, uv33, w 34, w 35, w 36, w 37, w 38, w 39, w 40, w 41, w 42, w 43, w 44, w 45, w 46, uv47]
 d M rc)
 Q := Eq.mpr (by kernel_rfl) h
def I85_0 (uv0 uv1 uv2 uv3 uv4 uv5 uv6 : Value) (ut7 : Option Addr) (ut7n ut7c : Nat) (uv9 uv10 uv11 uv12 uv13 uv14 uv15 uv16 uv17 uv18 uv19 uv20 uv21 uv22 uv23 uv24 uv25 uv26 uv27 uv28 uv29 uv30 uv31 uv32 uv33 uv47 : Value) (d : List ADef) (rc : Bool) (Inv : Nat → Int → Mem → Prop) (n : Nat) (s : St) : Prop := ∃ (t8 : Int) (w : Nat → Value) (M : Mem), s = (St.mk
 [uv0, uv1, uv2, uv3, uv4, uv5, uv6, .slice ut7 ut7n ut7c, .int .i64 t8, uv9, uv10, uv11, uv12, uv13, uv14, uv15, uv16, uv17, uv18, uv19, uv20, uv21, uv22, uv23, uv24,
 uv25, uv26, uv27, uv28, uv29, uv30, uv31, uv32, uv33, w 34, w 35, w 36, w 37, w 38, w 39, w 40, w 41, w 42, w 43, w 44, w 45, w 46, uv47]
 d M rc) ∧ Inv n t8 M
theorem I85_0.mk {uv0 uv1 uv2 uv3 uv4 uv5 uv6 : Value} {ut7 : Option Addr} {ut7n ut7c : Nat} {uv9 uv10 uv11 uv12 uv13 uv14 uv15 uv16 uv17 uv18 uv19 uv20 uv21 uv22 uv23 uv24 uv25 uv26 uv27 uv28 uv29 uv30 uv31 uv32 uv33 uv47 : Value} {d : List ADef} {rc : Bool} {Inv : Nat → Int → Mem → Prop} {n : Nat} {t8 : Int} {v34 v35 v36 v37 v38 v39 v40 v41 v42 v43 v44 v45 v46 : Value} {M : Mem} (hI : Inv n t8 M) : I85_0 uv0 uv1 uv2 uv3 uv4 uv5 uv6 ut7 ut7n ut7c uv9 uv10 uv11 uv12 uv13 uv14 uv15 uv16 uv17 uv18 uv19 uv20 uv21 uv22 uv23 uv24 uv25 uv26 uv27 uv28 uv29 uv30 uv31 uv32 uv33 uv47 d rc Inv n (St.mk
 [uv0, uv1, uv2, uv3, uv4, uv5, uv6, .slice ut7 ut7n ut7c, .int .i64 t8, uv9, uv10, uv11, uv12, uv13, uv14, uv15, uv16, uv17, uv18, uv19, uv20, uv21, uv22, uv23, uv24,
 uv25, uv26, uv27, uv28, uv29, uv30, uv31, uv32, uv33, v34, v35, v36, v37, v38, v39, v40, v41, v42, v43, v44, v45, v46, uv47]
 d M rc) := ⟨_, (fun i => List.getD ([uv0, uv1, uv2, uv3, uv4, uv5, uv6, .slice ut7 ut7n ut7c, .int .i64 t8, uv9, uv10, uv11, uv12, uv13, uv14, uv15, uv16, uv17, uv18, uv19, uv20, uv21, uv22, uv23, uv24, uv25,
 uv26, uv27, uv28, uv29, uv30, uv31, uv32, uv33, v34, v35, v36, v37, v38, v39, v40, v41, v42, v43, v44, v45, v46, uv47]) i undef), _, rfl, hI⟩
def X85_0 (uv0 uv1 uv2 uv3 uv4 uv5 uv6 : Value) (ut7 : Option Addr) (ut7n ut7c : Nat) (uv9 uv10 uv11 uv12 uv13 uv14 uv15 uv16 uv17 uv18 uv19 uv20 uv21 uv22 uv23 uv24 uv25 uv26 uv27 uv28 uv29 uv30 uv31 uv32 uv33 uv47 : Value) (d : List ADef) (rc : Bool) (R0 : Mem → Prop) (e : AExit) (s : St) : Prop := (e = (.exit 0) ∧ ∃ (w : Nat → Value) (M : Mem), s = (St.mk
 [uv0, uv1, uv2, uv3, uv4, uv5, uv6, .slice ut7 ut7n ut7c, w 8, uv9, uv10, uv11, uv12, uv13, uv14, uv15, uv16, uv17, uv18, uv19, uv20, uv21, uv22, uv23, uv24, uv25, uv26, uv27, uv28,
 uv29, uv30, uv31, uv32, uv33, w 34, w 35, w 36, w 37, w 38, w 39, w 40, w 41, w 42, w 43, w 44, w 45, w 46, uv47]
 d M rc) ∧ R0 M)
theorem X85_0.mk0 {uv0 uv1 uv2 uv3 uv4 uv5 uv6 : Value} {ut7 : Option Addr} {ut7n ut7c : Nat} {uv9 uv10 uv11 uv12 uv13 uv14 uv15 uv16 uv17 uv18 uv19 uv20 uv21 uv22 uv23 uv24 uv25 uv26 uv27 uv28 uv29 uv30 uv31 uv32 uv33 uv47 : Value} {d : List ADef} {rc : Bool} {R0 : Mem → Prop} {ov8 ov34 ov35 ov36 ov37 ov38 ov39 ov40 ov41 ov42 ov43 ov44 ov45 ov46 : Value} {M : Mem} (hI : R0 M) : X85_0 uv0 uv1 uv2 uv3 uv4 uv5 uv6 ut7 ut7n ut7c uv9 uv10 uv11 uv12 uv13 uv14 uv15 uv16 uv17 uv18 uv19 uv20 uv21 uv22 uv23 uv24 uv25 uv26 uv27 uv28 uv29 uv30 uv31 uv32 uv33 uv47 d rc R0 (.exit 0) (St.mk
 [uv0, uv1, uv2, uv3, uv4, uv5, uv6, .slice ut7 ut7n ut7c, ov8, uv9, uv10, uv11, uv12, uv13, uv14, uv15, uv16, uv17, uv18, uv19, uv20, uv21, uv22, uv23, uv24, uv25, uv26, uv27, uv28,
 uv29, uv30, uv31, uv32, uv33, ov34, ov35, ov36, ov37, ov38, ov39, ov40, ov41, ov42, ov43, ov44, ov45, ov46, uv47]
 d M rc) := ⟨rfl, (fun i => List.getD ([uv0, uv1, uv2, uv3, uv4, uv5, uv6, .slice ut7 ut7n ut7c, ov8, uv9, uv10, uv11, uv12, uv13, uv14, uv15, uv16, uv17, uv18, uv19, uv20, uv21, uv22, uv23, uv24, uv25, uv26, uv27, uv28,
 uv29, uv30, uv31, uv32, uv33, ov34, ov35, ov36, ov37, ov38, ov39, ov40, ov41, ov42, ov43, ov44, ov45, ov46, uv47]) i undef), _, rfl, hI⟩
theorem loop85_0 {uv0 uv1 uv2 uv3 uv4 uv5 uv6 : Value} {ut7 : Option Addr} {ut7n ut7c : Nat} {uv9 uv10 uv11 uv12 uv13 uv14 uv15 uv16 uv17 uv18 uv19 uv20 uv21 uv22 uv23 uv24 uv25 uv26 uv27 uv28 uv29 uv30 uv31 uv32 uv33 uv47 : Value} {d : List ADef} {rc : Bool} (Inv : Nat → Int → Mem → Prop) (R0 : Mem → Prop)
 (step : ∀ (n : Nat) (t8 : Int) (M : Mem), Inv n t8 M →
 cnd (!leF (Int.ofNat ut7n) t8)
 (∃ (a0 : Option Addr), ∃ (n1 : Nat), ∃ (n2 : Nat), (sliceA Try.prog M 22 (.slice ut7 ut7n ut7c) (some (Value.int .i64 t8)) none none = some (.slice a0 n1 n2)) ∧ ∃ (a3 : Option Addr), ∃ (n4 : Nat), ∃ (n5 : Nat), (sliceA Try.prog M 22 (.slice ut7 ut7n ut7c) none (some (Value.int .i64 t8)) none = some (.slice a3 n4 n5)) ∧ ∃ (i6 : Int), ∃ (M7 : Mem), (copyA Try.prog M 22 (.slice a0 n1 n2) (.slice a3 n4 n5) = some (.int .i64 i6, M7)) ∧ (True) ∧ ∃ m, m < n ∧ Inv m (wrapF .i64 (Int.add t8 i6)) (M7))
 (R0 (M)))
 {n : Nat} {t8 : Int} {v34 v35 v36 v37 v38 v39 v40 v41 v42 v43 v44 v45 v46 : Value} {M : Mem} (h0 : Inv n t8 M) :
 (∃ (w : Nat → Value) (M' : Mem), Lp Try.prog (Env.fn 85) [1, 1, 1, 1, 1, 1, 0, 0] (St.mk
 [uv0, uv1, uv2, uv3, uv4, uv5, uv6, .slice ut7 ut7n ut7c, .int .i64 t8, uv9, uv10, uv11, uv12, uv13, uv14, uv15, uv16, uv17, uv18, uv19, uv20, uv21, uv22, uv23, uv24,
 uv25, uv26, uv27, uv28, uv29, uv30, uv31, uv32, uv33, v34, v35, v36, v37, v38, v39, v40, v41, v42, v43, v44, v45, v46, uv47]
 d M rc) (.exit 0) (St.mk [uv0, uv1, uv2, uv3, uv4, uv5, uv6, .slice ut7 ut7n ut7c, w 8, uv9, uv10, uv11, uv12, uv13, uv14, uv15, uv16, uv17, uv18, uv19, uv20, uv21, uv22, uv23, uv24, uv25, uv26, uv27, uv28,
 uv29, uv30, uv31, uv32, uv33, w 34, w 35, w 36, w 37, w 38, w 39, w 40, w 41, w 42, w 43, w 44, w 45, w 46, uv47] d M' rc) ∧ R0 M') := by
 have mono : ∀ (n : Nat) (t8 : Int) (w : Nat → Value) (M : Mem) (Q : AExit → St → Prop) (hN : ∀ {m : Nat} {t8 : Int} {v34 v35 v36 v37 v38 v39 v40 v41 v42 v43 v44 v45 v46 : Value} {M : Mem}, m < n → Inv m t8 M → Q .normal (St.mk
 [uv0, uv1, uv2, uv3, uv4, uv5, uv6, .slice ut7 ut7n ut7c, .int .i64 t8, uv9, uv10, uv11, uv12, uv13, uv14, uv15, uv16, uv17, uv18, uv19, uv20, uv21, uv22, uv23, uv24,
 uv25, uv26, uv27, uv28, uv29, uv30, uv31, uv32, uv33, v34, v35, v36, v37, v38, v39, v40, v41, v42, v43, v44, v45, v46, uv47]
 d M rc)) (hE0 : ∀ {ov8 ov34 ov35 ov36 ov37 ov38 ov39 ov40 ov41 ov42 ov43 ov44 ov45 ov46 : Value} {M : Mem}, R0 M → Q (.exit 0) (St.mk
 [uv0, uv1, uv2, uv3, uv4, uv5, uv6, .slice ut7 ut7n ut7c, ov8, uv9, uv10, uv11, uv12, uv13, uv14, uv15, uv16, uv17, uv18, uv19, uv20, uv21, uv22, uv23, uv24, uv25, uv26, uv27, uv28,
 uv29, uv30, uv31, uv32, uv33, ov34, ov35, ov36, ov37, ov38, ov39, ov40, ov41, ov42, ov43, ov44, ov45, ov46, uv47]
 d M rc)) , Inv n t8 M → wpAt Try.prog (Env.fn 85) true ann85 [1, 1, 1, 1, 1, 1, 0, 0, 0] (St.mk
 [uv0, uv1, uv2, uv3, uv4, uv5, uv6, .slice ut7 ut7n ut7c, .int .i64 t8, uv9, uv10, uv11, uv12, uv13, uv14, uv15, uv16, uv17, uv18, uv19, uv20, uv21, uv22, uv23, uv24,
 uv25, uv26, uv27, uv28, uv29, uv30, uv31, uv32, uv33, w 34, w 35, w 36, w 37, w 38, w 39, w 40, w 41, w 42, w 43, w 44, w 45, w 46, uv47]
 d M rc) Q :=
 fun n t8 w M Q hN hE0 hI => wl85_0 _ w _ _ _ Q ((cnd_mono (fun ⟨a0, h⟩ => ⟨a0, (fun ⟨n1, h⟩ => ⟨n1, (fun ⟨n2, h⟩ => ⟨n2, (fun ⟨a, h⟩ => ⟨a, (fun ⟨a3, h⟩ => ⟨a3, (fun ⟨n4, h⟩ => ⟨n4, (fun ⟨n5, h⟩ => ⟨n5, (fun ⟨a, h⟩ => ⟨a, (fun ⟨i6, h⟩ => ⟨i6, (fun ⟨M7, h⟩ => ⟨M7, (fun ⟨a, h⟩ => ⟨a, (fun ⟨a, h⟩ => ⟨a, (fun ⟨_, hm, hi⟩ => hN hm hi) h⟩) h⟩) h⟩) h⟩) h⟩) h⟩) h⟩) h⟩) h⟩) h⟩) h⟩) h⟩) hE0) (step n t8 M hI))
 have key := loop_lp (P := Try.prog) (E := Env.fn 85) (sym := true) (ann := ann85) (p := [1, 1, 1, 1, 1, 1, 0, 0]) (body := stepC (codeOf Try.prog 85 [1, 1, 1, 1, 1, 1, 0, 0]) 0) (by kernel_rfl) (I85_0 uv0 uv1 uv2 uv3 uv4 uv5 uv6 ut7 ut7n ut7c uv9 uv10 uv11 uv12 uv13 uv14 uv15 uv16 uv17 uv18 uv19 uv20 uv21 uv22 uv23 uv24 uv25 uv26 uv27 uv28 uv29 uv30 uv31 uv32 uv33 uv47 d rc Inv) (X85_0 uv0 uv1 uv2 uv3 uv4 uv5 uv6 ut7 ut7n ut7c uv9 uv10 uv11 uv12 uv13 uv14 uv15 uv16 uv17 uv18 uv19 uv20 uv21 uv22 uv23 uv24 uv25 uv26 uv27 uv28 uv29 uv30 uv31 uv32 uv33 uv47 d rc R0) (by
 rintro n s ⟨_, _, _, rfl, hI⟩
 exact mono n _ _ _ _ (fun hm hi => ⟨_, hm, .mk hi⟩) (fun hr => .mk0 hr) hI)
 obtain ⟨e, s', h1, hX⟩ := key n _ (.mk h0)
 rcases hX with ⟨rfl, _, _, rfl, h2⟩
 · exact ⟨_, _, h1, h2⟩
theorem w101 {p0 p1 : Int} {M : Mem} {K : Value → Mem → Prop} (h : ∃ (i0 : Int),
 ∃ (i1 : Int),
 ∃ (M2 : Mem),
 Ret Try.prog 107 [.int .u64 p0, .int .u64 p1] M (.tuple (Array.mk [.int .u64 i0, .int .u64 i1])) M2 ∧
 K (.tuple (Array.mk [.int .u64 i0, .int .u64 i1])) M2) :
 wpRet Try.prog 101 true [] [.int .u64 p0, .int .u64 p1] M K := Eq.mpr (by kernel_rfl) h
theorem w12 {p00 : Int} {p01 p02 : ByteArray} {p03 : Option Addr} {p03n p03c : Nat} {p04 : Int} {M : Mem} {K : Value → Mem → Prop} (h : ∃ (n0 : Nat),
 ∃ (M1 : Mem),
 Ret Try.prog 33 [] (M ++ [AObj.cells [.int .i64 p00, .string p01, .string p02, .slice p03 p03n p03c, .int .i64 p04] 5 Mode.live])
 (.map (some n0)) M1 ∧
 ∃ (i2 : Int),
 rdVar Try.prog M1 3 (List.length M) 0 = some (.int .i64 i2) ∧
 ∃ (s3 : ByteArray),
 (∃ (x4 : FuncId),
 ∃ (M5 : List Value),
 ∃ (b6 : Bool),
 (∃ (x7 : FuncId),
 ∃ (M8 : List Value),
 ∃ (b9 : Bool),
 lookupA Try.prog M1 62 (.map (some n0)) (.int .i64 i2) true =
 some
 (.tuple
 (Array.mk
 [.agg
 (Array.mk
 [.string s3, .func (Fn.func x4) (Array.mk []) (Array.mk M5), .bool b6, .func (Fn.func x7) (Array.mk []) (Array.mk M8)]),
 .bool b9])) ∧
 ∃ (M10 : Mem),
 wrCells (M1 ++ [AObj.cells [.string (ByteArray.mk #[]), .nilFunc, .bool false, .nilFunc] 4 Mode.live]) (List.length M1) 0
 [.string s3, .func (Fn.func x4) (Array.mk []) (Array.mk M5), .bool b6, .func (Fn.func x7) (Array.mk []) (Array.mk M8)] =
 some M10 ∧
 (((List.length M <
 List.length
 (M ++
 [AObj.cells [.int .i64 p00, .string p01, .string p02, .slice p03 p03n p03c, .int .i64 p04] 5
 Mode.live]) →
 M1[List.length M]? =
 (M ++
 [AObj.cells [.int .i64 p00, .string p01, .string p02, .slice p03 p03n p03c, .int .i64 p04] 5
 Mode.live])[List.length M]?) ∧
 True) ∧
 True) ∧
 cnd b9
 (∃ (s15 : ByteArray),
 (∃ (x16 : FuncId),
 ∃ (M17 : List Value),
 ∃ (b18 : Bool),
 (∃ (x19 : FuncId),
 ∃ (M20 : List Value),
 rdVar Try.prog M10 60 (List.length M1) 0 =
 some
 (.agg
 (Array.mk
 [.string s15, .func (Fn.func x16) (Array.mk []) (Array.mk M17), .bool b18,
 .func (Fn.func x19) (Array.mk []) (Array.mk M20)])) ∧
 ∃ (i21 : Int),
 ∃ (s22 : ByteArray),
 ∃ (s23 : ByteArray),
 ∃ (a24 : Option Addr),
 ∃ (n25 : Nat),
 ∃ (n26 : Nat),
 ∃ (i27 : Int),
 rdVar Try.prog M10 24 (List.length M) 0 =
 some
 (.agg
 (Array.mk
 [.int .i64 i21, .string s22, .string s23, .slice a24 n25 n26,
 .int .i64 i27])) ∧
 ∃ (a28 : Option Addr),
 ∃ (n29 : Nat),
 ∃ (n30 : Nat),
 ∃ (b31 : Bool),
 ∃ (M32 : Mem),
 Ret Try.prog 34
 [.agg
 (Array.mk
 [.string s15, .func (Fn.func x16) (Array.mk []) (Array.mk M17), .bool b18,
 .func (Fn.func x19) (Array.mk []) (Array.mk M20)]),
 .agg
 (Array.mk
 [.int .i64 i21, .string s22, .string s23, .slice a24 n25 n26,
 .int .i64 i27])]
 M10 (.tuple (Array.mk [.slice a28 n29 n30, .bool b31])) M32 ∧
 K (.tuple (Array.mk [.slice a28 n29 n30, .bool b31])) M32) ∨
 rdVar Try.prog M10 60 (List.length M1) 0 =
 some (Value.agg (Array.mk [.string s15, .func (Fn.func x16) (Array.mk []) (Array.mk M17), .bool b18, .nilFunc])) ∧
 ∃ (i33 : Int),
 ∃ (s34 : ByteArray),
 ∃ (s35 : ByteArray),
 ∃ (a36 : Option Addr),
 ∃ (n37 : Nat),
 ∃ (n38 : Nat),
 ∃ (i39 : Int),
 rdVar Try.prog M10 24 (List.length M) 0 =
 some
 (.agg
 (Array.mk
 [.int .i64 i33, .string s34, .string s35, .slice a36 n37 n38,
 .int .i64 i39])) ∧
 ∃ (a40 : Option Addr),
 ∃ (n41 : Nat),
 ∃ (n42 : Nat),
 ∃ (b43 : Bool),
 ∃ (M44 : Mem),
 Ret Try.prog 34
 [.agg
 (Array.mk
 [.string s15, .func (Fn.func x16) (Array.mk []) (Array.mk M17), .bool b18,
 .nilFunc]),
 .agg
 (Array.mk
 [.int .i64 i33, .string s34, .string s35, .slice a36 n37 n38,
 .int .i64 i39])]
 M10 (.tuple (Array.mk [.slice a40 n41 n42, .bool b43])) M44 ∧
 K (.tuple (Array.mk [.slice a40 n41 n42, .bool b43])) M44) ∨
 ∃ (b45 : Bool),
 (∃ (x46 : FuncId),
 ∃ (M47 : List Value),
 rdVar Try.prog M10 60 (List.length M1) 0 =
 some (Value.agg (Array.mk [.string s15, .nilFunc, .bool b45, .func (Fn.func x46) (Array.mk []) (Array.mk M47)])) ∧
 ∃ (i48 : Int),
 ∃ (s49 : ByteArray),
 ∃ (s50 : ByteArray),
 ∃ (a51 : Option Addr),
 ∃ (n52 : Nat),
 ∃ (n53 : Nat),
 ∃ (i54 : Int),
 rdVar Try.prog M10 24 (List.length M) 0 =
 some
 (.agg
 (Array.mk
 [.int .i64 i48, .string s49, .string s50, .slice a51 n52 n53,
 .int .i64 i54])) ∧
 ∃ (a55 : Option Addr),
 ∃ (n56 : Nat),
 ∃ (n57 : Nat),
 ∃ (b58 : Bool),
 ∃ (M59 : Mem),
 Ret Try.prog 34
 [.agg
 (Array.mk
 [.string s15, .nilFunc, .bool b45,
 .func (Fn.func x46) (Array.mk []) (Array.mk M47)]),
 .agg
 (Array.mk
 [.int .i64 i48, .string s49, .string s50, .slice a51 n52 n53,
 .int .i64 i54])]
 M10 (.tuple (Array.mk [.slice a55 n56 n57, .bool b58])) M59 ∧
 K (.tuple (Array.mk [.slice a55 n56 n57, .bool b58])) M59) ∨
 rdVar Try.prog M10 60 (List.length M1) 0 = some (.agg (Array.mk [.string s15, .nilFunc, .bool b45, .nilFunc])) ∧
 ∃ (i60 : Int),
 ∃ (s61 : ByteArray),
 ∃ (s62 : ByteArray),
 ∃ (a63 : Option Addr),
 ∃ (n64 : Nat),
 ∃ (n65 : Nat),
 ∃ (i66 : Int),
 rdVar Try.prog M10 24 (List.length M) 0 =
 some
 (.agg
 (Array.mk
 [.int .i64 i60, .string s61, .string s62, .slice a63 n64 n65,
 .int .i64 i66])) ∧
 ∃ (a67 : Option Addr),
 ∃ (n68 : Nat),
 ∃ (n69 : Nat),
 ∃ (b70 : Bool),
 ∃ (M71 : Mem),
 Ret Try.prog 34
 [.agg (Array.mk [.string s15, .nilFunc, .bool b45, .nilFunc]),
 .agg
 (Array.mk
 [.int .i64 i60, .string s61, .string s62, .slice a63 n64 n65,
 .int .i64 i66])]
 M10 (.tuple (Array.mk [.slice a67 n68 n69, .bool b70])) M71 ∧
 K (.tuple (Array.mk [.slice a67 n68 n69, .bool b70])) M71)
 (K (.tuple (Array.mk [.slice none 0 0, .bool false])) M10)) ∨
 ∃ (b72 : Bool),
 lookupA Try.prog M1 62 (.map (some n0)) (.int .i64 i2) true =
 some
 (.tuple
 (Array.mk [.agg (Array.mk [.string s3, .func (Fn.func x4) (Array.mk []) (Array.mk M5), .bool b6, .nilFunc]), .bool b72])) ∧
 ∃ (M73 : Mem),
 wrCells (M1 ++ [AObj.cells [.string (ByteArray.mk #[]), .nilFunc, .bool false, .nilFunc] 4 Mode.live]) (List.length M1) 0
 [.string s3, .func (Fn.func x4) (Array.mk []) (Array.mk M5), .bool b6, .nilFunc] =
 some M73 ∧
 (((List.length M <
 List.length
 (M ++
 [AObj.cells [.int .i64 p00, .string p01, .string p02, .slice p03 p03n p03c, .int .i64 p04] 5 Mode.live]) →
 M1[List.length M]? =
 (M ++
 [AObj.cells [.int .i64 p00, .string p01, .string p02, .slice p03 p03n p03c, .int .i64 p04] 5
 Mode.live])[List.length M]?) ∧
 True) ∧
 True) ∧
 cnd b72
 (∃ (s78 : ByteArray),
 (∃ (x79 : FuncId),
 ∃ (M80 : List Value),
 ∃ (b81 : Bool),
 (∃ (x82 : FuncId),
 ∃ (M83 : List Value),
 rdVar Try.prog M73 60 (List.length M1) 0 =
 some
 (.agg
 (Array.mk
 [.string s78, .func (Fn.func x79) (Array.mk []) (Array.mk M80), .bool b81,
 .func (Fn.func x82) (Array.mk []) (Array.mk M83)])) ∧
 ∃ (i84 : Int),
 ∃ (s85 : ByteArray),
 ∃ (s86 : ByteArray),
 ∃ (a87 : Option Addr),
 ∃ (n88 : Nat),
 ∃ (n89 : Nat),
 ∃ (i90 : Int),
 rdVar Try.prog M73 24 (List.length M) 0 =
 some
 (.agg
 (Array.mk
 [.int .i64 i84, .string s85, .string s86, .slice a87 n88 n89,
 .int .i64 i90])) ∧
 ∃ (a91 : Option Addr),
 ∃ (n92 : Nat),
 ∃ (n93 : Nat),
 ∃ (b94 : Bool),
 ∃ (M95 : Mem),
 Ret Try.prog 34
 [.agg
 (Array.mk
 [.string s78, .func (Fn.func x79) (Array.mk []) (Array.mk M80), .bool b81,
 .func (Fn.func x82) (Array.mk []) (Array.mk M83)]),
 .agg
 (Array.mk
 [.int .i64 i84, .string s85, .string s86, .slice a87 n88 n89,
 .int .i64 i90])]
 M73 (.tuple (Array.mk [.slice a91 n92 n93, .bool b94])) M95 ∧
 K (.tuple (Array.mk [.slice a91 n92 n93, .bool b94])) M95) ∨
 rdVar Try.prog M73 60 (List.length M1) 0 =
 some (Value.agg (Array.mk [.string s78, .func (Fn.func x79) (Array.mk []) (Array.mk M80), .bool b81, .nilFunc])) ∧
 ∃ (i96 : Int),
 ∃ (s97 : ByteArray),
 ∃ (s98 : ByteArray),
 ∃ (a99 : Option Addr),
 ∃ (n100 : Nat),
 ∃ (n101 : Nat),
 ∃ (i102 : Int),
 rdVar Try.prog M73 24 (List.length M) 0 =
 some
 (.agg
 (Array.mk
 [.int .i64 i96, .string s97, .string s98, .slice a99 n100 n101,
 .int .i64 i102])) ∧
 ∃ (a103 : Option Addr),
 ∃ (n104 : Nat),
 ∃ (n105 : Nat),
 ∃ (b106 : Bool),
 ∃ (M107 : Mem),
 Ret Try.prog 34
 [.agg
 (Array.mk
 [.string s78, .func (Fn.func x79) (Array.mk []) (Array.mk M80), .bool b81, .nilFunc]),
 .agg
 (Array.mk
 [.int .i64 i96, .string s97, .string s98, .slice a99 n100 n101,
 .int .i64 i102])]
 M73 (.tuple (Array.mk [.slice a103 n104 n105, .bool b106])) M107 ∧
 K (.tuple (Array.mk [.slice a103 n104 n105, .bool b106])) M107) ∨
 ∃ (b108 : Bool),
 (∃ (x109 : FuncId),
 ∃ (M110 : List Value),
 rdVar Try.prog M73 60 (List.length M1) 0 =
 some (Value.agg (Array.mk [.string s78, .nilFunc, .bool b108, .func (Fn.func x109) (Array.mk []) (Array.mk M110)])) ∧
 ∃ (i111 : Int),
 ∃ (s112 : ByteArray),
 ∃ (s113 : ByteArray),
 ∃ (a114 : Option Addr),
 ∃ (n115 : Nat),
 ∃ (n116 : Nat),
 ∃ (i117 : Int),
 rdVar Try.prog M73 24 (List.length M) 0 =
 some
 (.agg
 (Array.mk
 [.int .i64 i111, .string s112, .string s113, .slice a114 n115 n116,
 .int .i64 i117])) ∧
 ∃ (a118 : Option Addr),
 ∃ (n119 : Nat),
 ∃ (n120 : Nat),
 ∃ (b121 : Bool),
 ∃ (M122 : Mem),
 Ret Try.prog 34
 [.agg
 (Array.mk
 [.string s78, .nilFunc, .bool b108,
 .func (Fn.func x109) (Array.mk []) (Array.mk M110)]),
 .agg
 (Array.mk
 [.int .i64 i111, .string s112, .string s113, .slice a114 n115 n116,
 .int .i64 i117])]
 M73 (.tuple (Array.mk [.slice a118 n119 n120, .bool b121])) M122 ∧
 K (.tuple (Array.mk [.slice a118 n119 n120, .bool b121])) M122) ∨
 rdVar Try.prog M73 60 (List.length M1) 0 = some (.agg (Array.mk [.string s78, .nilFunc, .bool b108, .nilFunc])) ∧
 ∃ (i123 : Int),
 ∃ (s124 : ByteArray),
 ∃ (s125 : ByteArray),
 ∃ (a126 : Option Addr),
 ∃ (n127 : Nat),
 ∃ (n128 : Nat),
 ∃ (i129 : Int),
 rdVar Try.prog M73 24 (List.length M) 0 =
 some
 (.agg
 (Array.mk
 [.int .i64 i123, .string s124, .string s125, .slice a126 n127 n128,
 .int .i64 i129])) ∧
 ∃ (a130 : Option Addr),
 ∃ (n131 : Nat),
 ∃ (n132 : Nat),
 ∃ (b133 : Bool),
 ∃ (M134 : Mem),
 Ret Try.prog 34
 [.agg (Array.mk [.string s78, .nilFunc, .bool b108, .nilFunc]),
 .agg
 (Array.mk
 [.int .i64 i123, .string s124, .string s125, .slice a126 n127 n128,
 .int .i64 i129])]
 M73 (.tuple (Array.mk [.slice a130 n131 n132, .bool b133])) M134 ∧
 K (.tuple (Array.mk [.slice a130 n131 n132, .bool b133])) M134)
 (K (.tuple (Array.mk [.slice none 0 0, .bool false])) M73)) ∨
 ∃ (b135 : Bool),
 (∃ (x136 : FuncId),
 ∃ (M137 : List Value),
 ∃ (b138 : Bool),
 lookupA Try.prog M1 62 (.map (some n0)) (.int .i64 i2) true =
 some
 (.tuple
 (Array.mk
 [.agg (Array.mk [.string s3, .nilFunc, .bool b135, .func (Fn.func x136) (Array.mk []) (Array.mk M137)]), .bool b138])) ∧
 ∃ (M139 : Mem),
 wrCells (M1 ++ [AObj.cells [.string (ByteArray.mk #[]), .nilFunc, .bool false, .nilFunc] 4 Mode.live]) (List.length M1) 0
 [.string s3, .nilFunc, .bool b135, .func (Fn.func x136) (Array.mk []) (Array.mk M137)] =
 some M139 ∧
 (((List.length M <
 List.length
 (M ++
 [AObj.cells [.int .i64 p00, .string p01, .string p02, .slice p03 p03n p03c, .int .i64 p04] 5 Mode.live]) →
 M1[List.length M]? =
 (M ++
 [AObj.cells [.int .i64 p00, .string p01, .string p02, .slice p03 p03n p03c, .int .i64 p04] 5
 Mode.live])[List.length M]?) ∧
 True) ∧
 True) ∧
 cnd b138
 (∃ (s144 : ByteArray),
 (∃ (x145 : FuncId),
 ∃ (M146 : List Value),
 ∃ (b147 : Bool),
 (∃ (x148 : FuncId),
 ∃ (M149 : List Value),
 rdVar Try.prog M139 60 (List.length M1) 0 =
 some
 (.agg
 (Array.mk
 [.string s144, .func (Fn.func x145) (Array.mk []) (Array.mk M146), .bool b147,
 .func (Fn.func x148) (Array.mk []) (Array.mk M149)])) ∧
 ∃ (i150 : Int),
 ∃ (s151 : ByteArray),
 ∃ (s152 : ByteArray),
 ∃ (a153 : Option Addr),
 ∃ (n154 : Nat),
 ∃ (n155 : Nat),
 ∃ (i156 : Int),
 rdVar Try.prog M139 24 (List.length M) 0 =
 some
 (.agg
 (Array.mk
 [.int .i64 i150, .string s151, .string s152, .slice a153 n154 n155,
 .int .i64 i156])) ∧
 ∃ (a157 : Option Addr),
 ∃ (n158 : Nat),
 ∃ (n159 : Nat),
 ∃ (b160 : Bool),
 ∃ (M161 : Mem),
 Ret Try.prog 34
 [.agg
 (Array.mk
 [.string s144, .func (Fn.func x145) (Array.mk []) (Array.mk M146), .bool b147,
 .func (Fn.func x148) (Array.mk []) (Array.mk M149)]),
 .agg
 (Array.mk
 [.int .i64 i150, .string s151, .string s152, .slice a153 n154 n155,
 .int .i64 i156])]
 M139 (.tuple (Array.mk [.slice a157 n158 n159, .bool b160])) M161 ∧
 K (.tuple (Array.mk [.slice a157 n158 n159, .bool b160])) M161) ∨
 rdVar Try.prog M139 60 (List.length M1) 0 =
 some (Value.agg (Array.mk [.string s144, .func (Fn.func x145) (Array.mk []) (Array.mk M146), .bool b147, .nilFunc])) ∧
 ∃ (i162 : Int),
 ∃ (s163 : ByteArray),
 ∃ (s164 : ByteArray),
 ∃ (a165 : Option Addr),
 ∃ (n166 : Nat),
 ∃ (n167 : Nat),
 ∃ (i168 : Int),
 rdVar Try.prog M139 24 (List.length M) 0 =
 some
 (.agg
 (Array.mk
 [.int .i64 i162, .string s163, .string s164, .slice a165 n166 n167,
 .int .i64 i168])) ∧
 ∃ (a169 : Option Addr),
 ∃ (n170 : Nat),
 ∃ (n171 : Nat),
 ∃ (b172 : Bool),
 ∃ (M173 : Mem),
 Ret Try.prog 34
 [.agg
 (Array.mk
 [.string s144, .func (Fn.func x145) (Array.mk []) (Array.mk M146), .bool b147,
 .nilFunc]),
 .agg
 (Array.mk
 [.int .i64 i162, .string s163, .string s164, .slice a165 n166 n167,
 .int .i64 i168])]
 M139 (.tuple (Array.mk [.slice a169 n170 n171, .bool b172])) M173 ∧
 K (.tuple (Array.mk [.slice a169 n170 n171, .bool b172])) M173) ∨
 ∃ (b174 : Bool),
 (∃ (x175 : FuncId),
 ∃ (M176 : List Value),
 rdVar Try.prog M139 60 (List.length M1) 0 =
 some (Value.agg (Array.mk [.string s144, .nilFunc, .bool b174, .func (Fn.func x175) (Array.mk []) (Array.mk M176)])) ∧
 ∃ (i177 : Int),
 ∃ (s178 : ByteArray),
 ∃ (s179 : ByteArray),
 ∃ (a180 : Option Addr),
 ∃ (n181 : Nat),
 ∃ (n182 : Nat),
 ∃ (i183 : Int),
 rdVar Try.prog M139 24 (List.length M) 0 =
 some
 (.agg
 (Array.mk
 [.int .i64 i177, .string s178, .string s179, .slice a180 n181 n182,
 .int .i64 i183])) ∧
 ∃ (a184 : Option Addr),
 ∃ (n185 : Nat),
 ∃ (n186 : Nat),
 ∃ (b187 : Bool),
 ∃ (M188 : Mem),
 Ret Try.prog 34
 [.agg
 (Array.mk
 [.string s144, .nilFunc, .bool b174,
 .func (Fn.func x175) (Array.mk []) (Array.mk M176)]),
 .agg
 (Array.mk
 [.int .i64 i177, .string s178, .string s179, .slice a180 n181 n182,
 .int .i64 i183])]
 M139 (.tuple (Array.mk [.slice a184 n185 n186, .bool b187])) M188 ∧
 K (.tuple (Array.mk [.slice a184 n185 n186, .bool b187])) M188) ∨
 rdVar Try.prog M139 60 (List.length M1) 0 = some (.agg (Array.mk [.string s144, .nilFunc, .bool b174, .nilFunc])) ∧
 ∃ (i189 : Int),
 ∃ (s190 : ByteArray),
 ∃ (s191 : ByteArray),
 ∃ (a192 : Option Addr),
 ∃ (n193 : Nat),
 ∃ (n194 : Nat),
 ∃ (i195 : Int),
 rdVar Try.prog M139 24 (List.length M) 0 =
 some
 (.agg
 (Array.mk
 [.int .i64 i189, .string s190, .string s191, .slice a192 n193 n194,
 .int .i64 i195])) ∧
 ∃ (a196 : Option Addr),
 ∃ (n197 : Nat),
 ∃ (n198 : Nat),
 ∃ (b199 : Bool),
 ∃ (M200 : Mem),
 Ret Try.prog 34
 [.agg (Array.mk [.string s144, .nilFunc, .bool b174, .nilFunc]),
 .agg
 (Array.mk
 [.int .i64 i189, .string s190, .string s191, .slice a192 n193 n194,
 .int .i64 i195])]
 M139 (.tuple (Array.mk [.slice a196 n197 n198, .bool b199])) M200 ∧
 K (.tuple (Array.mk [.slice a196 n197 n198, .bool b199])) M200)
 (K (.tuple (Array.mk [.slice none 0 0, .bool false])) M139)) ∨
 ∃ (b201 : Bool),
 lookupA Try.prog M1 62 (.map (some n0)) (.int .i64 i2) true =
 some (Value.tuple (Array.mk [.agg (Array.mk [.string s3, .nilFunc, .bool b135, .nilFunc]), .bool b201])) ∧
 ∃ (M202 : Mem),
 wrCells (M1 ++ [AObj.cells [.string (ByteArray.mk #[]), .nilFunc, .bool false, .nilFunc] 4 Mode.live]) (List.length M1) 0
 [.string s3, .nilFunc, .bool b135, .nilFunc] =
 some M202 ∧
 (((List.length M <
 List.length
 (M ++ [AObj.cells [.int .i64 p00, .string p01, .string p02, .slice p03 p03n p03c, .int .i64 p04] 5 Mode.live]) →
 M1[List.length M]? =
 (M ++
 [AObj.cells [.int .i64 p00, .string p01, .string p02, .slice p03 p03n p03c, .int .i64 p04] 5
 Mode.live])[List.length M]?) ∧
 True) ∧
 True) ∧
 cnd b201
 (∃ (s207 : ByteArray),
 (∃ (x208 : FuncId),
 ∃ (M209 : List Value),
 ∃ (b210 : Bool),
 (∃ (x211 : FuncId),
 ∃ (M212 : List Value),
 rdVar Try.prog M202 60 (List.length M1) 0 =
 some
 (.agg
 (Array.mk
 [.string s207, .func (Fn.func x208) (Array.mk []) (Array.mk M209), .bool b210,
 .func (Fn.func x211) (Array.mk []) (Array.mk M212)])) ∧
 ∃ (i213 : Int),
 ∃ (s214 : ByteArray),
 ∃ (s215 : ByteArray),
 ∃ (a216 : Option Addr),
 ∃ (n217 : Nat),
 ∃ (n218 : Nat),
 ∃ (i219 : Int),
 rdVar Try.prog M202 24 (List.length M) 0 =
 some
 (.agg
 (Array.mk
 [.int .i64 i213, .string s214, .string s215, .slice a216 n217 n218,
 .int .i64 i219])) ∧
 ∃ (a220 : Option Addr),
 ∃ (n221 : Nat),
 ∃ (n222 : Nat),
 ∃ (b223 : Bool),
 ∃ (M224 : Mem),
 Ret Try.prog 34
 [.agg
 (Array.mk
 [.string s207, .func (Fn.func x208) (Array.mk []) (Array.mk M209), .bool b210,
 .func (Fn.func x211) (Array.mk []) (Array.mk M212)]),
 .agg
 (Array.mk
 [.int .i64 i213, .string s214, .string s215, .slice a216 n217 n218,
 .int .i64 i219])]
 M202 (.tuple (Array.mk [.slice a220 n221 n222, .bool b223])) M224 ∧
 K (.tuple (Array.mk [.slice a220 n221 n222, .bool b223])) M224) ∨
 rdVar Try.prog M202 60 (List.length M1) 0 =
 some (Value.agg (Array.mk [.string s207, .func (Fn.func x208) (Array.mk []) (Array.mk M209), .bool b210, .nilFunc])) ∧
 ∃ (i225 : Int),
 ∃ (s226 : ByteArray),
 ∃ (s227 : ByteArray),
 ∃ (a228 : Option Addr),
 ∃ (n229 : Nat),
 ∃ (n230 : Nat),
 ∃ (i231 : Int),
 rdVar Try.prog M202 24 (List.length M) 0 =
 some
 (.agg
 (Array.mk
 [.int .i64 i225, .string s226, .string s227, .slice a228 n229 n230,
 .int .i64 i231])) ∧
 ∃ (a232 : Option Addr),
 ∃ (n233 : Nat),
 ∃ (n234 : Nat),
 ∃ (b235 : Bool),
 ∃ (M236 : Mem),
 Ret Try.prog 34
 [.agg
 (Array.mk
 [.string s207, .func (Fn.func x208) (Array.mk []) (Array.mk M209), .bool b210, .nilFunc]),
 .agg
 (Array.mk
 [.int .i64 i225, .string s226, .string s227, .slice a228 n229 n230,
 .int .i64 i231])]
 M202 (.tuple (Array.mk [.slice a232 n233 n234, .bool b235])) M236 ∧
 K (.tuple (Array.mk [.slice a232 n233 n234, .bool b235])) M236) ∨
 ∃ (b237 : Bool),
 (∃ (x238 : FuncId),
 ∃ (M239 : List Value),
 rdVar Try.prog M202 60 (List.length M1) 0 =
 some (Value.agg (Array.mk [.string s207, .nilFunc, .bool b237, .func (Fn.func x238) (Array.mk []) (Array.mk M239)])) ∧
 ∃ (i240 : Int),
 ∃ (s241 : ByteArray),
 ∃ (s242 : ByteArray),
 ∃ (a243 : Option Addr),
 ∃ (n244 : Nat),
 ∃ (n245 : Nat),
 ∃ (i246 : Int),
 rdVar Try.prog M202 24 (List.length M) 0 =
 some
 (.agg
 (Array.mk
 [.int .i64 i240, .string s241, .string s242, .slice a243 n244 n245,
 .int .i64 i246])) ∧
 ∃ (a247 : Option Addr),
 ∃ (n248 : Nat),
 ∃ (n249 : Nat),
 ∃ (b250 : Bool),
 ∃ (M251 : Mem),
 Ret Try.prog 34
 [.agg
 (Array.mk
 [.string s207, .nilFunc, .bool b237, .func (Fn.func x238) (Array.mk []) (Array.mk M239)]),
 .agg
 (Array.mk
 [.int .i64 i240, .string s241, .string s242, .slice a243 n244 n245,
 .int .i64 i246])]
 M202 (.tuple (Array.mk [.slice a247 n248 n249, .bool b250])) M251 ∧
 K (.tuple (Array.mk [.slice a247 n248 n249, .bool b250])) M251) ∨
 rdVar Try.prog M202 60 (List.length M1) 0 = some (.agg (Array.mk [.string s207, .nilFunc, .bool b237, .nilFunc])) ∧
 ∃ (i252 : Int),
 ∃ (s253 : ByteArray),
 ∃ (s254 : ByteArray),
 ∃ (a255 : Option Addr),
 ∃ (n256 : Nat),
 ∃ (n257 : Nat),
 ∃ (i258 : Int),
 rdVar Try.prog M202 24 (List.length M) 0 =
 some
 (.agg
 (Array.mk
 [.int .i64 i252, .string s253, .string s254, .slice a255 n256 n257, .int .i64 i258])) ∧
 ∃ (a259 : Option Addr),
 ∃ (n260 : Nat),
 ∃ (n261 : Nat),
 ∃ (b262 : Bool),
 ∃ (M263 : Mem),
 Ret Try.prog 34
 [.agg (Array.mk [.string s207, .nilFunc, .bool b237, .nilFunc]),
 .agg
 (Array.mk
 [.int .i64 i252, .string s253, .string s254, .slice a255 n256 n257,
 .int .i64 i258])]
 M202 (.tuple (Array.mk [.slice a259 n260 n261, .bool b262])) M263 ∧
 K (.tuple (Array.mk [.slice a259 n260 n261, .bool b262])) M263)
 (K (.tuple (Array.mk [.slice none 0 0, .bool false])) M202)) :
 wpRet Try.prog 12 true [] [.agg (Array.mk [.int .i64 p00, .string p01, .string p02, .slice p03 p03n p03c, .int .i64 p04])] M K := Eq.mpr (by kernel_rfl) h
theorem w14 {p0 : Int} {M : Mem} {K : Value → Mem → Prop} (h : ∃ (n0 : Nat),
 ∃ (M1 : Mem),
 Ret Try.prog 33 [] M (.map (some n0)) M1 ∧
 ∃ (s2 : ByteArray),
 (∃ (x3 : FuncId),
 ∃ (M4 : List Value),
 ∃ (b5 : Bool),
 (∃ (x6 : FuncId),
 ∃ (M7 : List Value),
 lookupA Try.prog M1 62 (.map (some n0)) (.int .i64 p0) false =
 some
 (.agg
 (Array.mk [.string s2, .func (Fn.func x3) (Array.mk []) (Array.mk M4), .bool b5, .func (Fn.func x6) (Array.mk []) (Array.mk M7)])) ∧
 K (.string s2) M1) ∨
 lookupA Try.prog M1 62 (.map (some n0)) (.int .i64 p0) false =
 some (Value.agg (Array.mk [.string s2, .func (Fn.func x3) (Array.mk []) (Array.mk M4), .bool b5, .nilFunc])) ∧
 K (.string s2) M1) ∨
 ∃ (b8 : Bool),
 (∃ (x9 : FuncId),
 ∃ (M10 : List Value),
 lookupA Try.prog M1 62 (.map (some n0)) (.int .i64 p0) false =
 some (Value.agg (Array.mk [.string s2, .nilFunc, .bool b8, .func (Fn.func x9) (Array.mk []) (Array.mk M10)])) ∧
 K (.string s2) M1) ∨
 lookupA Try.prog M1 62 (.map (some n0)) (.int .i64 p0) false = some (.agg (Array.mk [.string s2, .nilFunc, .bool b8, .nilFunc])) ∧
 K (.string s2) M1) :
 wpRet Try.prog 14 true [] [.int .i64 p0] M K := Eq.mpr (by kernel_rfl) h
theorem w34 {p00 : ByteArray} {p01 : Value} {p02 : Bool} {p03 : Value} {p10 : Int} {p11 p12 : ByteArray} {p13 : Option Addr} {p13n p13c : Nat} {p14 : Int} {M : Mem} {K : Value → Mem → Prop} (h : ∃ (s0 : ByteArray),
 rdVar Try.prog
 (M ++ [AObj.cells [.string p00, p01, .bool p02, p03] 4 Mode.live] ++
 [AObj.cells [.int .i64 p10, .string p11, .string p12, .slice p13 p13n p13c, .int .i64 p14] 5 Mode.live])
 9 (List.length (M ++ [AObj.cells [.string p00, p01, .bool p02, p03] 4 Mode.live])) 1 =
 some (Value.string s0) ∧
 ((∃ (x1 : FuncId),
 ∃ (M2 : List Value),
 rdVar Try.prog
 (M ++ [AObj.cells [.string p00, p01, .bool p02, p03] 4 Mode.live] ++
 [AObj.cells [.int .i64 p10, .string p11, .string p12, .slice p13 p13n p13c, .int .i64 p14] 5 Mode.live])
 38 (List.length M) 1 =
 some (Value.func (Fn.func x1) (Array.mk []) (Array.mk M2)) ∧
 ∃ (b3 : Bool),
 binA Try.prog BinOp.neq 38 (Operand.tmp 14) (Operand.const .nilFunc) (.func (Fn.func x1) (Array.mk []) (Array.mk M2)) .nilFunc = some (.bool b3) ∧
 cnd b3
 ((∃ (x4 : FuncId),
 ∃ (M5 : List Value),
 rdVar Try.prog
 (M ++ [AObj.cells [.string p00, p01, .bool p02, p03] 4 Mode.live] ++
 [AObj.cells [.int .i64 p10, .string p11, .string p12, .slice p13 p13n p13c, .int .i64 p14] 5 Mode.live])
 38 (List.length M) 1 =
 some (Value.func (Fn.func x4) (Array.mk []) (Array.mk M5)) ∧
 ∃ (s6 : ByteArray),
 rdVar Try.prog
 (M ++ [AObj.cells [.string p00, p01, .bool p02, p03] 4 Mode.live] ++
 [AObj.cells [.int .i64 p10, .string p11, .string p12, .slice p13 p13n p13c, .int .i64 p14] 5 Mode.live])
 9 (List.length (M ++ [AObj.cells [.string p00, p01, .bool p02, p03] 4 Mode.live])) 1 =
 some (Value.string s6) ∧
 cnd (walksIn Try.prog x4)
 (∃ (b7 : Bool),
 ∃ (M8 : Mem),
 Ret Try.prog x4 (.string s6 :: M5)
 (M ++ [AObj.cells [.string p00, p01, .bool p02, p03] 4 Mode.live] ++
 [AObj.cells [.int .i64 p10, .string p11, .string p12, .slice p13 p13n p13c, .int .i64 p14] 5 Mode.live])
 (.bool b7) M8 ∧
 ∃ (s9 : ByteArray),
 rdVar Try.prog M8 9 (List.length (M ++ [AObj.cells [.string p00, p01, .bool p02, p03] 4 Mode.live])) 2 = some (.string s9) ∧
 ∃ (b10 : Bool),
 rdVar Try.prog M8 4 (List.length M) 2 = some (.bool b10) ∧
 cnd b10
 (∃ (s11 : ByteArray),
 rdVar Try.prog M8 9 (List.length (M ++ [AObj.cells [.string p00, p01, .bool p02, p03] 4 Mode.live])) 2 = some (.string s11) ∧
 ∃ (b12 : Bool),
 ∃ (M13 : Mem),
 Ret Try.prog 16 [.string s11] M8 (.bool b12) M13 ∧
 ((∃ (x14 : FuncId),
 ∃ (M15 : List Value),
 rdVar Try.prog M13 36 (List.length M) 3 = some (.func (Fn.func x14) (Array.mk []) (Array.mk M15)) ∧
 ∃ (i16 : Int),
 ∃ (s17 : ByteArray),
 ∃ (s18 : ByteArray),
 ∃ (a19 : Option Addr),
 ∃ (n20 : Nat),
 ∃ (n21 : Nat),
 ∃ (i22 : Int),
 rdVar Try.prog M13 24
 (List.length (M ++ [AObj.cells [.string p00, p01, .bool p02, p03] 4 Mode.live])) 0 =
 some
 (.agg
 (Array.mk
 [.int .i64 i16, .string s17, .string s18, .slice a19 n20 n21,
 .int .i64 i22])) ∧
 cnd (walksIn Try.prog x14)
 (∃ (a23 : Option Addr),
 ∃ (n24 : Nat),
 ∃ (n25 : Nat),
 ∃ (b26 : Bool),
 ∃ (M27 : Mem),
 Ret Try.prog x14
 (.agg
 (Array.mk
 [.int .i64 i16, .string s17, .string s18,
 .slice a19 n20 n21, .int .i64 i22]) ::
 M15)
 M13 (.tuple (Array.mk [.slice a23 n24 n25, .bool b26])) M27 ∧
 cnd b26
 (cnd b7
 (cnd b12 (K (.tuple (Array.mk [.slice a23 n24 n25, .bool true])) M27)
 (K (.tuple (Array.mk [.slice none 0 0, .bool false])) M27))
 (K (.tuple (Array.mk [.slice none 0 0, .bool false])) M27))
 (K (.tuple (Array.mk [.slice none 0 0, .bool false])) M27))
 False) ∨
 rdVar Try.prog M13 36 (List.length M) 3 = some .nilFunc ∧
 ∃ (i28 : Int),
 ∃ (s29 : ByteArray),
 ∃ (s30 : ByteArray),
 ∃ (a31 : Option Addr),
 ∃ (n32 : Nat),
 ∃ (n33 : Nat),
 ∃ (i34 : Int),
 rdVar Try.prog M13 24 (List.length (M ++ [AObj.cells [.string p00, p01, .bool p02, p03] 4 Mode.live]))
 0 =
 some
 (.agg
 (Array.mk
 [.int .i64 i28, .string s29, .string s30, .slice a31 n32 n33,
 .int .i64 i34])) ∧
 False))
 ((∃ (x35 : FuncId),
 ∃ (M36 : List Value),
 rdVar Try.prog M8 36 (List.length M) 3 = some (.func (Fn.func x35) (Array.mk []) (Array.mk M36)) ∧
 ∃ (i37 : Int),
 ∃ (s38 : ByteArray),
 ∃ (s39 : ByteArray),
 ∃ (a40 : Option Addr),
 ∃ (n41 : Nat),
 ∃ (n42 : Nat),
 ∃ (i43 : Int),
 rdVar Try.prog M8 24 (List.length (M ++ [AObj.cells [.string p00, p01, .bool p02, p03] 4 Mode.live])) 0 =
 some
 (.agg
 (Array.mk
 [.int .i64 i37, .string s38, .string s39, .slice a40 n41 n42,
 .int .i64 i43])) ∧
 cnd (walksIn Try.prog x35)
 (∃ (a44 : Option Addr),
 ∃ (n45 : Nat),
 ∃ (n46 : Nat),
 ∃ (b47 : Bool),
 ∃ (M48 : Mem),
 Ret Try.prog x35
 (.agg
 (Array.mk
 [.int .i64 i37, .string s38, .string s39, .slice a40 n41 n42,
 .int .i64 i43]) ::
 M36)
 M8 (.tuple (Array.mk [.slice a44 n45 n46, .bool b47])) M48 ∧
 cnd b47
 (cnd b7
 (cnd (eqS s9 (ByteArray.mk #[]))
 (K (.tuple (Array.mk [.slice a44 n45 n46, .bool true])) M48)
 (K (.tuple (Array.mk [.slice none 0 0, .bool false])) M48))
 (K (.tuple (Array.mk [.slice none 0 0, .bool false])) M48))
 (K (.tuple (Array.mk [.slice none 0 0, .bool false])) M48))
 False) ∨
 rdVar Try.prog M8 36 (List.length M) 3 = some .nilFunc ∧
 ∃ (i49 : Int),
 ∃ (s50 : ByteArray),
 ∃ (s51 : ByteArray),
 ∃ (a52 : Option Addr),
 ∃ (n53 : Nat),
 ∃ (n54 : Nat),
 ∃ (i55 : Int),
 rdVar Try.prog M8 24 (List.length (M ++ [AObj.cells [.string p00, p01, .bool p02, p03] 4 Mode.live])) 0 =
 some
 (.agg
 (Array.mk
 [.int .i64 i49, .string s50, .string s51, .slice a52 n53 n54,
 .int .i64 i55])) ∧
 False))
 False) ∨
 rdVar Try.prog
 (M ++ [AObj.cells [.string p00, p01, .bool p02, p03] 4 Mode.live] ++
 [AObj.cells [.int .i64 p10, .string p11, .string p12, .slice p13 p13n p13c, .int .i64 p14] 5 Mode.live])
 38 (List.length M) 1 =
 some .nilFunc ∧
 ∃ (s56 : ByteArray),
 rdVar Try.prog
 (M ++ [AObj.cells [.string p00, p01, .bool p02, p03] 4 Mode.live] ++
 [AObj.cells [.int .i64 p10, .string p11, .string p12, .slice p13 p13n p13c, .int .i64 p14] 5 Mode.live])
 9 (List.length (M ++ [AObj.cells [.string p00, p01, .bool p02, p03] 4 Mode.live])) 1 =
 some (Value.string s56) ∧
 False)
 (∃ (s57 : ByteArray),
 rdVar Try.prog
 (M ++ [AObj.cells [.string p00, p01, .bool p02, p03] 4 Mode.live] ++
 [AObj.cells [.int .i64 p10, .string p11, .string p12, .slice p13 p13n p13c, .int .i64 p14] 5 Mode.live])
 9 (List.length (M ++ [AObj.cells [.string p00, p01, .bool p02, p03] 4 Mode.live])) 2 =
 some (Value.string s57) ∧
 ∃ (b58 : Bool),
 rdVar Try.prog
 (M ++ [AObj.cells [.string p00, p01, .bool p02, p03] 4 Mode.live] ++
 [AObj.cells [.int .i64 p10, .string p11, .string p12, .slice p13 p13n p13c, .int .i64 p14] 5 Mode.live])
 4 (List.length M) 2 =
 some (Value.bool b58) ∧
 cnd b58
 (∃ (s59 : ByteArray),
 rdVar Try.prog
 (M ++ [AObj.cells [.string p00, p01, .bool p02, p03] 4 Mode.live] ++
 [AObj.cells [.int .i64 p10, .string p11, .string p12, .slice p13 p13n p13c, .int .i64 p14] 5 Mode.live])
 9 (List.length (M ++ [AObj.cells [.string p00, p01, .bool p02, p03] 4 Mode.live])) 2 =
 some (Value.string s59) ∧
 ∃ (b60 : Bool),
 ∃ (M61 : Mem),
 Ret Try.prog 16 [.string s59]
 (M ++ [AObj.cells [.string p00, p01, .bool p02, p03] 4 Mode.live] ++
 [AObj.cells [.int .i64 p10, .string p11, .string p12, .slice p13 p13n p13c, .int .i64 p14] 5 Mode.live])
 (.bool b60) M61 ∧
 ((∃ (x62 : FuncId),
 ∃ (M63 : List Value),
 rdVar Try.prog M61 36 (List.length M) 3 = some (.func (Fn.func x62) (Array.mk []) (Array.mk M63)) ∧
 ∃ (i64 : Int),
 ∃ (s65 : ByteArray),
 ∃ (s66 : ByteArray),
 ∃ (a67 : Option Addr),
 ∃ (n68 : Nat),
 ∃ (n69 : Nat),
 ∃ (i70 : Int),
 rdVar Try.prog M61 24 (List.length (M ++ [AObj.cells [.string p00, p01, .bool p02, p03] 4 Mode.live])) 0 =
 some
 (.agg
 (Array.mk
 [.int .i64 i64, .string s65, .string s66, .slice a67 n68 n69, .int .i64 i70])) ∧
 cnd (walksIn Try.prog x62)
 (∃ (a71 : Option Addr),
 ∃ (n72 : Nat),
 ∃ (n73 : Nat),
 ∃ (b74 : Bool),
 ∃ (M75 : Mem),
 Ret Try.prog x62
 (.agg
 (Array.mk
 [.int .i64 i64, .string s65, .string s66, .slice a67 n68 n69,
 .int .i64 i70]) ::
 M63)
 M61 (.tuple (Array.mk [.slice a71 n72 n73, .bool b74])) M75 ∧
 cnd b74
 (cnd (eqS s0 (ByteArray.mk #[]))
 (cnd b60 (K (.tuple (Array.mk [.slice a71 n72 n73, .bool true])) M75)
 (K (.tuple (Array.mk [.slice none 0 0, .bool false])) M75))
 (K (.tuple (Array.mk [.slice none 0 0, .bool false])) M75))
 (K (.tuple (Array.mk [.slice none 0 0, .bool false])) M75))
 False) ∨
 rdVar Try.prog M61 36 (List.length M) 3 = some .nilFunc ∧
 ∃ (i76 : Int),
 ∃ (s77 : ByteArray),
 ∃ (s78 : ByteArray),
 ∃ (a79 : Option Addr),
 ∃ (n80 : Nat),
 ∃ (n81 : Nat),
 ∃ (i82 : Int),
 rdVar Try.prog M61 24 (List.length (M ++ [AObj.cells [.string p00, p01, .bool p02, p03] 4 Mode.live])) 0 =
 some
 (.agg
 (Array.mk
 [.int .i64 i76, .string s77, .string s78, .slice a79 n80 n81, .int .i64 i82])) ∧
 False))
 ((∃ (x83 : FuncId),
 ∃ (M84 : List Value),
 rdVar Try.prog
 (M ++ [AObj.cells [.string p00, p01, .bool p02, p03] 4 Mode.live] ++
 [AObj.cells [.int .i64 p10, .string p11, .string p12, .slice p13 p13n p13c, .int .i64 p14] 5 Mode.live])
 36 (List.length M) 3 =
 some (Value.func (Fn.func x83) (Array.mk []) (Array.mk M84)) ∧
 ∃ (i85 : Int),
 ∃ (s86 : ByteArray),
 ∃ (s87 : ByteArray),
 ∃ (a88 : Option Addr),
 ∃ (n89 : Nat),
 ∃ (n90 : Nat),
 ∃ (i91 : Int),
 rdVar Try.prog
 (M ++ [AObj.cells [.string p00, p01, .bool p02, p03] 4 Mode.live] ++
 [AObj.cells [.int .i64 p10, .string p11, .string p12, .slice p13 p13n p13c, .int .i64 p14] 5
 Mode.live])
 24 (List.length (M ++ [AObj.cells [.string p00, p01, .bool p02, p03] 4 Mode.live])) 0 =
 some
 (.agg
 (Array.mk [.int .i64 i85, .string s86, .string s87, .slice a88 n89 n90, .int .i64 i91])) ∧
 cnd (walksIn Try.prog x83)
 (∃ (a92 : Option Addr),
 ∃ (n93 : Nat),
 ∃ (n94 : Nat),
 ∃ (b95 : Bool),
 ∃ (M96 : Mem),
 Ret Try.prog x83
 (.agg
 (Array.mk
 [.int .i64 i85, .string s86, .string s87, .slice a88 n89 n90,
 .int .i64 i91]) ::
 M84)
 (M ++ [AObj.cells [.string p00, p01, .bool p02, p03] 4 Mode.live] ++
 [AObj.cells
 [.int .i64 p10, .string p11, .string p12, .slice p13 p13n p13c,
 .int .i64 p14]
 5 Mode.live])
 (.tuple (Array.mk [.slice a92 n93 n94, .bool b95])) M96 ∧
 cnd b95
 (cnd (eqS s0 (ByteArray.mk #[]))
 (cnd (eqS s57 (ByteArray.mk #[])) (K (.tuple (Array.mk [.slice a92 n93 n94, .bool true])) M96)
 (K (.tuple (Array.mk [.slice none 0 0, .bool false])) M96))
 (K (.tuple (Array.mk [.slice none 0 0, .bool false])) M96))
 (K (.tuple (Array.mk [.slice none 0 0, .bool false])) M96))
 False) ∨
 rdVar Try.prog
 (M ++ [AObj.cells [.string p00, p01, .bool p02, p03] 4 Mode.live] ++
 [AObj.cells [.int .i64 p10, .string p11, .string p12, .slice p13 p13n p13c, .int .i64 p14] 5 Mode.live])
 36 (List.length M) 3 =
 some .nilFunc ∧
 ∃ (i97 : Int),
 ∃ (s98 : ByteArray),
 ∃ (s99 : ByteArray),
 ∃ (a100 : Option Addr),
 ∃ (n101 : Nat),
 ∃ (n102 : Nat),
 ∃ (i103 : Int),
 rdVar Try.prog
 (M ++ [AObj.cells [.string p00, p01, .bool p02, p03] 4 Mode.live] ++
 [AObj.cells [.int .i64 p10, .string p11, .string p12, .slice p13 p13n p13c, .int .i64 p14] 5
 Mode.live])
 24 (List.length (M ++ [AObj.cells [.string p00, p01, .bool p02, p03] 4 Mode.live])) 0 =
 some
 (.agg
 (Array.mk [.int .i64 i97, .string s98, .string s99, .slice a100 n101 n102, .int .i64 i103])) ∧
 False))) ∨
 rdVar Try.prog
 (M ++ [AObj.cells [.string p00, p01, .bool p02, p03] 4 Mode.live] ++
 [AObj.cells [.int .i64 p10, .string p11, .string p12, .slice p13 p13n p13c, .int .i64 p14] 5 Mode.live])
 38 (List.length M) 1 =
 some .nilFunc ∧
 ∃ (b104 : Bool),
 binA Try.prog BinOp.neq 38 (Operand.tmp 14) (Operand.const .nilFunc) .nilFunc .nilFunc = some (.bool b104) ∧
 cnd b104
 ((∃ (x105 : FuncId),
 ∃ (M106 : List Value),
 rdVar Try.prog
 (M ++ [AObj.cells [.string p00, p01, .bool p02, p03] 4 Mode.live] ++
 [AObj.cells [.int .i64 p10, .string p11, .string p12, .slice p13 p13n p13c, .int .i64 p14] 5 Mode.live])
 38 (List.length M) 1 =
 some (Value.func (Fn.func x105) (Array.mk []) (Array.mk M106)) ∧
 ∃ (s107 : ByteArray),
 rdVar Try.prog
 (M ++ [AObj.cells [.string p00, p01, .bool p02, p03] 4 Mode.live] ++
 [AObj.cells [.int .i64 p10, .string p11, .string p12, .slice p13 p13n p13c, .int .i64 p14] 5 Mode.live])
 9 (List.length (M ++ [AObj.cells [.string p00, p01, .bool p02, p03] 4 Mode.live])) 1 =
 some (Value.string s107) ∧
 cnd (walksIn Try.prog x105)
 (∃ (b108 : Bool),
 ∃ (M109 : Mem),
 Ret Try.prog x105 (.string s107 :: M106)
 (M ++ [AObj.cells [.string p00, p01, .bool p02, p03] 4 Mode.live] ++
 [AObj.cells [.int .i64 p10, .string p11, .string p12, .slice p13 p13n p13c, .int .i64 p14] 5 Mode.live])
 (.bool b108) M109 ∧
 ∃ (s110 : ByteArray),
 rdVar Try.prog M109 9 (List.length (M ++ [AObj.cells [.string p00, p01, .bool p02, p03] 4 Mode.live])) 2 = some (.string s110) ∧
 ∃ (b111 : Bool),
 rdVar Try.prog M109 4 (List.length M) 2 = some (.bool b111) ∧
 cnd b111
 (∃ (s112 : ByteArray),
 rdVar Try.prog M109 9 (List.length (M ++ [AObj.cells [.string p00, p01, .bool p02, p03] 4 Mode.live])) 2 = some (.string s112) ∧
 ∃ (b113 : Bool),
 ∃ (M114 : Mem),
 Ret Try.prog 16 [.string s112] M109 (.bool b113) M114 ∧
 ((∃ (x115 : FuncId),
 ∃ (M116 : List Value),
 rdVar Try.prog M114 36 (List.length M) 3 = some (.func (Fn.func x115) (Array.mk []) (Array.mk M116)) ∧
 ∃ (i117 : Int),
 ∃ (s118 : ByteArray),
 ∃ (s119 : ByteArray),
 ∃ (a120 : Option Addr),
 ∃ (n121 : Nat),
 ∃ (n122 : Nat),
 ∃ (i123 : Int),
 rdVar Try.prog M114 24 (List.length (M ++ [AObj.cells [.string p00, p01, .bool p02, p03] 4 Mode.live]))
 0 =
 some
 (.agg
 (Array.mk
 [.int .i64 i117, .string s118, .string s119, .slice a120 n121 n122,
 .int .i64 i123])) ∧
 cnd (walksIn Try.prog x115)
 (∃ (a124 : Option Addr),
 ∃ (n125 : Nat),
 ∃ (n126 : Nat),
 ∃ (b127 : Bool),
 ∃ (M128 : Mem),
 Ret Try.prog x115
 (.agg
 (Array.mk
 [.int .i64 i117, .string s118, .string s119,
 .slice a120 n121 n122, .int .i64 i123]) ::
 M116)
 M114 (.tuple (Array.mk [.slice a124 n125 n126, .bool b127])) M128 ∧
 cnd b127
 (cnd b108
 (cnd b113 (K (.tuple (Array.mk [.slice a124 n125 n126, .bool true])) M128)
 (K (.tuple (Array.mk [.slice none 0 0, .bool false])) M128))
 (K (.tuple (Array.mk [.slice none 0 0, .bool false])) M128))
 (K (.tuple (Array.mk [.slice none 0 0, .bool false])) M128))
 False) ∨
 rdVar Try.prog M114 36 (List.length M) 3 = some .nilFunc ∧
 ∃ (i129 : Int),
 ∃ (s130 : ByteArray),
 ∃ (s131 : ByteArray),
 ∃ (a132 : Option Addr),
 ∃ (n133 : Nat),
 ∃ (n134 : Nat),
 ∃ (i135 : Int),
 rdVar Try.prog M114 24 (List.length (M ++ [AObj.cells [.string p00, p01, .bool p02, p03] 4 Mode.live])) 0 =
 some
 (.agg
 (Array.mk
 [.int .i64 i129, .string s130, .string s131, .slice a132 n133 n134,
 .int .i64 i135])) ∧
 False))
 ((∃ (x136 : FuncId),
 ∃ (M137 : List Value),
 rdVar Try.prog M109 36 (List.length M) 3 = some (.func (Fn.func x136) (Array.mk []) (Array.mk M137)) ∧
 ∃ (i138 : Int),
 ∃ (s139 : ByteArray),
 ∃ (s140 : ByteArray),
 ∃ (a141 : Option Addr),
 ∃ (n142 : Nat),
 ∃ (n143 : Nat),
 ∃ (i144 : Int),
 rdVar Try.prog M109 24 (List.length (M ++ [AObj.cells [.string p00, p01, .bool p02, p03] 4 Mode.live])) 0 =
 some
 (.agg
 (Array.mk
 [.int .i64 i138, .string s139, .string s140, .slice a141 n142 n143,
 .int .i64 i144])) ∧
 cnd (walksIn Try.prog x136)
 (∃ (a145 : Option Addr),
 ∃ (n146 : Nat),
 ∃ (n147 : Nat),
 ∃ (b148 : Bool),
 ∃ (M149 : Mem),
 Ret Try.prog x136
 (.agg
 (Array.mk
 [.int .i64 i138, .string s139, .string s140, .slice a141 n142 n143,
 .int .i64 i144]) ::
 M137)
 M109 (.tuple (Array.mk [.slice a145 n146 n147, .bool b148])) M149 ∧
 cnd b148
 (cnd b108
 (cnd (eqS s110 (ByteArray.mk #[]))
 (K (.tuple (Array.mk [.slice a145 n146 n147, .bool true])) M149)
 (K (.tuple (Array.mk [.slice none 0 0, .bool false])) M149))
 (K (.tuple (Array.mk [.slice none 0 0, .bool false])) M149))
 (K (.tuple (Array.mk [.slice none 0 0, .bool false])) M149))
 False) ∨
 rdVar Try.prog M109 36 (List.length M) 3 = some .nilFunc ∧
 ∃ (i150 : Int),
 ∃ (s151 : ByteArray),
 ∃ (s152 : ByteArray),
 ∃ (a153 : Option Addr),
 ∃ (n154 : Nat),
 ∃ (n155 : Nat),
 ∃ (i156 : Int),
 rdVar Try.prog M109 24 (List.length (M ++ [AObj.cells [.string p00, p01, .bool p02, p03] 4 Mode.live])) 0 =
 some
 (.agg
 (Array.mk
 [.int .i64 i150, .string s151, .string s152, .slice a153 n154 n155,
 .int .i64 i156])) ∧
 False))
 False) ∨
 rdVar Try.prog
 (M ++ [AObj.cells [.string p00, p01, .bool p02, p03] 4 Mode.live] ++
 [AObj.cells [.int .i64 p10, .string p11, .string p12, .slice p13 p13n p13c, .int .i64 p14] 5 Mode.live])
 38 (List.length M) 1 =
 some .nilFunc ∧
 ∃ (s157 : ByteArray),
 rdVar Try.prog
 (M ++ [AObj.cells [.string p00, p01, .bool p02, p03] 4 Mode.live] ++
 [AObj.cells [.int .i64 p10, .string p11, .string p12, .slice p13 p13n p13c, .int .i64 p14] 5 Mode.live])
 9 (List.length (M ++ [AObj.cells [.string p00, p01, .bool p02, p03] 4 Mode.live])) 1 =
 some (Value.string s157) ∧
 False)
 (∃ (s158 : ByteArray),
 rdVar Try.prog
 (M ++ [AObj.cells [.string p00, p01, .bool p02, p03] 4 Mode.live] ++
 [AObj.cells [.int .i64 p10, .string p11, .string p12, .slice p13 p13n p13c, .int .i64 p14] 5 Mode.live])
 9 (List.length (M ++ [AObj.cells [.string p00, p01, .bool p02, p03] 4 Mode.live])) 2 =
 some (Value.string s158) ∧
 ∃ (b159 : Bool),
 rdVar Try.prog
 (M ++ [AObj.cells [.string p00, p01, .bool p02, p03] 4 Mode.live] ++
 [AObj.cells [.int .i64 p10, .string p11, .string p12, .slice p13 p13n p13c, .int .i64 p14] 5 Mode.live])
 4 (List.length M) 2 =
 some (Value.bool b159) ∧
 cnd b159
 (∃ (s160 : ByteArray),
 rdVar Try.prog
 (M ++ [AObj.cells [.string p00, p01, .bool p02, p03] 4 Mode.live] ++
 [AObj.cells [.int .i64 p10, .string p11, .string p12, .slice p13 p13n p13c, .int .i64 p14] 5 Mode.live])
 9 (List.length (M ++ [AObj.cells [.string p00, p01, .bool p02, p03] 4 Mode.live])) 2 =
 some (Value.string s160) ∧
 ∃ (b161 : Bool),
 ∃ (M162 : Mem),
 Ret Try.prog 16 [.string s160]
 (M ++ [AObj.cells [.string p00, p01, .bool p02, p03] 4 Mode.live] ++
 [AObj.cells [.int .i64 p10, .string p11, .string p12, .slice p13 p13n p13c, .int .i64 p14] 5 Mode.live])
 (.bool b161) M162 ∧
 ((∃ (x163 : FuncId),
 ∃ (M164 : List Value),
 rdVar Try.prog M162 36 (List.length M) 3 = some (.func (Fn.func x163) (Array.mk []) (Array.mk M164)) ∧
 ∃ (i165 : Int),
 ∃ (s166 : ByteArray),
 ∃ (s167 : ByteArray),
 ∃ (a168 : Option Addr),
 ∃ (n169 : Nat),
 ∃ (n170 : Nat),
 ∃ (i171 : Int),
 rdVar Try.prog M162 24 (List.length (M ++ [AObj.cells [.string p00, p01, .bool p02, p03] 4 Mode.live])) 0 =
 some
 (.agg
 (Array.mk
 [.int .i64 i165, .string s166, .string s167, .slice a168 n169 n170,
 .int .i64 i171])) ∧
 cnd (walksIn Try.prog x163)
 (∃ (a172 : Option Addr),
 ∃ (n173 : Nat),
 ∃ (n174 : Nat),
 ∃ (b175 : Bool),
 ∃ (M176 : Mem),
 Ret Try.prog x163
 (.agg
 (Array.mk
 [.int .i64 i165, .string s166, .string s167, .slice a168 n169 n170,
 .int .i64 i171]) ::
 M164)
 M162 (.tuple (Array.mk [.slice a172 n173 n174, .bool b175])) M176 ∧
 cnd b175
 (cnd (eqS s0 (ByteArray.mk #[]))
 (cnd b161 (K (.tuple (Array.mk [.slice a172 n173 n174, .bool true])) M176)
 (K (.tuple (Array.mk [.slice none 0 0, .bool false])) M176))
 (K (.tuple (Array.mk [.slice none 0 0, .bool false])) M176))
 (K (.tuple (Array.mk [.slice none 0 0, .bool false])) M176))
 False) ∨
 rdVar Try.prog M162 36 (List.length M) 3 = some .nilFunc ∧
 ∃ (i177 : Int),
 ∃ (s178 : ByteArray),
 ∃ (s179 : ByteArray),
 ∃ (a180 : Option Addr),
 ∃ (n181 : Nat),
 ∃ (n182 : Nat),
 ∃ (i183 : Int),
 rdVar Try.prog M162 24 (List.length (M ++ [AObj.cells [.string p00, p01, .bool p02, p03] 4 Mode.live])) 0 =
 some
 (.agg
 (Array.mk
 [.int .i64 i177, .string s178, .string s179, .slice a180 n181 n182, .int .i64 i183])) ∧
 False))
 ((∃ (x184 : FuncId),
 ∃ (M185 : List Value),
 rdVar Try.prog
 (M ++ [AObj.cells [.string p00, p01, .bool p02, p03] 4 Mode.live] ++
 [AObj.cells [.int .i64 p10, .string p11, .string p12, .slice p13 p13n p13c, .int .i64 p14] 5 Mode.live])
 36 (List.length M) 3 =
 some (Value.func (Fn.func x184) (Array.mk []) (Array.mk M185)) ∧
 ∃ (i186 : Int),
 ∃ (s187 : ByteArray),
 ∃ (s188 : ByteArray),
 ∃ (a189 : Option Addr),
 ∃ (n190 : Nat),
 ∃ (n191 : Nat),
 ∃ (i192 : Int),
 rdVar Try.prog
 (M ++ [AObj.cells [.string p00, p01, .bool p02, p03] 4 Mode.live] ++
 [AObj.cells [.int .i64 p10, .string p11, .string p12, .slice p13 p13n p13c, .int .i64 p14] 5
 Mode.live])
 24 (List.length (M ++ [AObj.cells [.string p00, p01, .bool p02, p03] 4 Mode.live])) 0 =
 some
 (.agg
 (Array.mk [.int .i64 i186, .string s187, .string s188, .slice a189 n190 n191, .int .i64 i192])) ∧
 cnd (walksIn Try.prog x184)
 (∃ (a193 : Option Addr),
 ∃ (n194 : Nat),
 ∃ (n195 : Nat),
 ∃ (b196 : Bool),
 ∃ (M197 : Mem),
 Ret Try.prog x184
 (.agg
 (Array.mk
 [.int .i64 i186, .string s187, .string s188, .slice a189 n190 n191,
 .int .i64 i192]) ::
 M185)
 (M ++ [AObj.cells [.string p00, p01, .bool p02, p03] 4 Mode.live] ++
 [AObj.cells
 [.int .i64 p10, .string p11, .string p12, .slice p13 p13n p13c, .int .i64 p14] 5
 Mode.live])
 (.tuple (Array.mk [.slice a193 n194 n195, .bool b196])) M197 ∧
 cnd b196
 (cnd (eqS s0 (ByteArray.mk #[]))
 (cnd (eqS s158 (ByteArray.mk #[])) (K (.tuple (Array.mk [.slice a193 n194 n195, .bool true])) M197)
 (K (.tuple (Array.mk [.slice none 0 0, .bool false])) M197))
 (K (.tuple (Array.mk [.slice none 0 0, .bool false])) M197))
 (K (.tuple (Array.mk [.slice none 0 0, .bool false])) M197))
 False) ∨
 rdVar Try.prog
 (M ++ [AObj.cells [.string p00, p01, .bool p02, p03] 4 Mode.live] ++
 [AObj.cells [.int .i64 p10, .string p11, .string p12, .slice p13 p13n p13c, .int .i64 p14] 5 Mode.live])
 36 (List.length M) 3 =
 some .nilFunc ∧
 ∃ (i198 : Int),
 ∃ (s199 : ByteArray),
 ∃ (s200 : ByteArray),
 ∃ (a201 : Option Addr),
 ∃ (n202 : Nat),
 ∃ (n203 : Nat),
 ∃ (i204 : Int),
 rdVar Try.prog
 (M ++ [AObj.cells [.string p00, p01, .bool p02, p03] 4 Mode.live] ++
 [AObj.cells [.int .i64 p10, .string p11, .string p12, .slice p13 p13n p13c, .int .i64 p14] 5
 Mode.live])
 24 (List.length (M ++ [AObj.cells [.string p00, p01, .bool p02, p03] 4 Mode.live])) 0 =
 some
 (.agg
 (Array.mk [.int .i64 i198, .string s199, .string s200, .slice a201 n202 n203, .int .i64 i204])) ∧
 False)))) :
 wpRet Try.prog 34 true []
 [.agg (Array.mk [.string p00, p01, .bool p02, p03]),
 .agg (Array.mk [.int .i64 p10, .string p11, .string p12, .slice p13 p13n p13c, .int .i64 p14])]
 M K := Eq.mpr (by kernel_rfl) h

end Go.Proofs.YtabkcbaknjenmaaAM

/-
  THE NODE LAWS: what is to be shown for functions, printed by a program: reference 6's kids
-/
set_option linter.unusedVariables false
namespace Go.Proofs.YtabkcbaknjenmaaAM
open Go Go.Proofs
set_option maxRecDepth 100000
set_option maxHeartbeats 4000000
theorem w35 {p00 : Int} {p01 p02 : ByteArray} {p03 : Option Addr} {p03n p03c : Nat} {p04 : Int} {M : Mem} {K : Value → Mem → Prop} (h : ∃ (a0 : Option Addr),
 ∃ (n1 : Nat),
 ∃ (n2 : Nat),
 rdVar Try.prog (M ++ [AObj.cells [.int .i64 p00, .string p01, .string p02, .slice p03 p03n p03c, .int .i64 p04] 5 Mode.live]) 22 (List.length M)
 3 =
 some (Value.slice a0 n1 n2) ∧
 ∃ (i3 : Int),
 rdVar Try.prog (M ++ [AObj.cells [.int .i64 p00, .string p01, .string p02, .slice p03 p03n p03c, .int .i64 p04] 5 Mode.live]) 3
 (List.length M) 0 =
 some (Value.int .i64 i3) ∧
 cnd (eqF i3 (Int.ofNat 10))
 (∃ (a4 : Option Addr),
 ∃ (n5 : Nat),
 ∃ (n6 : Nat),
 ∃ (M7 : Mem),
 Ret Try.prog 65 [.int .i64 (Int.ofNat 0), .int .i64 (Int.ofNat n1)]
 (M ++ [AObj.cells [.int .i64 p00, .string p01, .string p02, .slice p03 p03n p03c, .int .i64 p04] 5 Mode.live])
 (.slice a4 n5 n6) M7 ∧
 ∃ (i8 : Int),
 binA Try.prog BinOp.rem 3 (Operand.tmp 14) (Operand.const (.int .i64 (Int.ofNat 2))) (.int .i64 (Int.ofNat n1))
 (.int .i64 (Int.ofNat 2)) =
 some (Value.int .i64 i8) ∧
 cnd (eqF i8 (Int.ofNat 0)) (K (.tuple (Array.mk [.slice a4 n5 n6, .bool (leF (Int.ofNat n1) (Int.ofNat 128))])) M7)
 (K (.tuple (Array.mk [.slice a4 n5 n6, .bool false])) M7))
 (cnd (eqF i3 (Int.ofNat 17))
 (∃ (a9 : Option Addr),
 ∃ (n10 : Nat),
 ∃ (n11 : Nat),
 ∃ (M12 : Mem),
 Ret Try.prog 65 [.int .i64 (Int.ofNat 2), .int .i64 (Int.ofNat n1)]
 (M ++ [AObj.cells [.int .i64 p00, .string p01, .string p02, .slice p03 p03n p03c, .int .i64 p04] 5 Mode.live])
 (.slice a9 n10 n11) M12 ∧
 cnd (leF (Int.ofNat 2) (Int.ofNat n1)) (K (.tuple (Array.mk [.slice a9 n10 n11, .bool (leF (Int.ofNat n1) (Int.ofNat 64))])) M12)
 (K (.tuple (Array.mk [.slice a9 n10 n11, .bool false])) M12))
 (cnd (eqF i3 (Int.ofNat 18))
 (∃ (a13 : Option Addr),
 ∃ (n14 : Nat),
 ∃ (n15 : Nat),
 ∃ (M16 : Mem),
 Ret Try.prog 65 [.int .i64 (Int.ofNat 2), .int .i64 (Int.ofNat n1)]
 (M ++ [AObj.cells [.int .i64 p00, .string p01, .string p02, .slice p03 p03n p03c, .int .i64 p04] 5 Mode.live])
 (.slice a13 n14 n15) M16 ∧
 cnd (leF (Int.ofNat 2) (Int.ofNat n1)) (K (.tuple (Array.mk [.slice a13 n14 n15, .bool (leF (Int.ofNat n1) (Int.ofNat 64))])) M16)
 (K (.tuple (Array.mk [.slice a13 n14 n15, .bool false])) M16))
 (cnd (eqF i3 (Int.ofNat 27))
 (∃ (a17 : Option Addr),
 ∃ (n18 : Nat),
 ∃ (n19 : Nat),
 ∃ (M20 : Mem),
 Ret Try.prog 65 [.int .i64 (Int.ofNat 3), .int .i64 (Int.ofNat n1)]
 (M ++ [AObj.cells [.int .i64 p00, .string p01, .string p02, .slice p03 p03n p03c, .int .i64 p04] 5 Mode.live])
 (.slice a17 n18 n19) M20 ∧
 K (.tuple (Array.mk [.slice a17 n18 n19, .bool (leF (Int.ofNat n1) (Int.ofNat 64))])) M20)
 (cnd (eqF i3 (Int.ofNat 28))
 (∃ (a21 : Option Addr),
 ∃ (n22 : Nat),
 ∃ (n23 : Nat),
 ∃ (M24 : Mem),
 Ret Try.prog 65 [.int .i64 (Int.ofNat 3), .int .i64 (Int.ofNat n1)]
 (M ++ [AObj.cells [.int .i64 p00, .string p01, .string p02, .slice p03 p03n p03c, .int .i64 p04] 5 Mode.live])
 (.slice a21 n22 n23) M24 ∧
 K (.tuple (Array.mk [.slice a21 n22 n23, .bool (leF (Int.ofNat n1) (Int.ofNat 64))])) M24)
 (cnd (eqF i3 (Int.ofNat 12))
 (∃ (s25 : ByteArray),
 rdVar Try.prog (M ++ [AObj.cells [.int .i64 p00, .string p01, .string p02, .slice p03 p03n p03c, .int .i64 p04] 5 Mode.live])
 9 (List.length M) 1 =
 some (Value.string s25) ∧
 ∃ (i26 : Int),
 ∃ (M27 : Mem),
 Ret Try.prog 66 [.string s25]
 (M ++ [AObj.cells [.int .i64 p00, .string p01, .string p02, .slice p03 p03n p03c, .int .i64 p04] 5 Mode.live])
 (.int .i64 i26) M27 ∧
 ∃ (a28 : Option Addr),
 ∃ (n29 : Nat),
 ∃ (n30 : Nat),
 ∃ (M31 : Mem),
 Ret Try.prog 65 [.int .i64 (Int.ofNat 0), .int .i64 i26] M27 (.slice a28 n29 n30) M31 ∧
 K (.tuple (Array.mk [.slice a28 n29 n30, .bool true])) M31)
 (cnd (eqF i3 (Int.ofNat 6))
 (K
 (.tuple
 (Array.mk
 [.slice
 (some
 (.mk
 (List.length
 (M ++
 [AObj.cells [.int .i64 p00, .string p01, .string p02, .slice p03 p03n p03c, .int .i64 p04] 5 Mode.live]))
 0 none))
 3 3,
 .bool true]))
 (M ++ [AObj.cells [.int .i64 p00, .string p01, .string p02, .slice p03 p03n p03c, .int .i64 p04] 5 Mode.live] ++
 [AObj.cells [.int .i64 (Int.ofNat 2), .int .i64 (Int.ofNat 2), .int .i64 (Int.ofNat 0)] 1 Mode.live]))
 (cnd (eqF i3 (Int.ofNat 13))
 (K
 (.tuple
 (Array.mk
 [.slice
 (some
 (.mk
 (List.length
 (M ++
 [AObj.cells [.int .i64 p00, .string p01, .string p02, .slice p03 p03n p03c, .int .i64 p04] 5 Mode.live]))
 0 none))
 3 3,
 .bool true]))
 (M ++ [AObj.cells [.int .i64 p00, .string p01, .string p02, .slice p03 p03n p03c, .int .i64 p04] 5 Mode.live] ++
 [AObj.cells [.int .i64 (Int.ofNat 2), .int .i64 (Int.ofNat 2), .int .i64 (Int.ofNat 0)] 1 Mode.live]))
 (cnd (eqF i3 (Int.ofNat 7))
 (∃ (a32 : Option Addr),
 ∃ (n33 : Nat),
 ∃ (n34 : Nat),
 ∃ (M35 : Mem),
 Ret Try.prog 65 [.int .i64 (Int.ofNat 0), .int .i64 (Int.ofNat 2)]
 (M ++
 [AObj.cells [.int .i64 p00, .string p01, .string p02, .slice p03 p03n p03c, .int .i64 p04] 5 Mode.live])
 (.slice a32 n33 n34) M35 ∧
 K (.tuple (Array.mk [.slice a32 n33 n34, .bool true])) M35)
 (cnd (eqF i3 (Int.ofNat 11))
 (∃ (a36 : Option Addr),
 ∃ (n37 : Nat),
 ∃ (n38 : Nat),
 ∃ (M39 : Mem),
 Ret Try.prog 65 [.int .i64 (Int.ofNat 0), .int .i64 (Int.ofNat 2)]
 (M ++
 [AObj.cells [.int .i64 p00, .string p01, .string p02, .slice p03 p03n p03c, .int .i64 p04] 5 Mode.live])
 (.slice a36 n37 n38) M39 ∧
 K (.tuple (Array.mk [.slice a36 n37 n38, .bool true])) M39)
 (cnd (eqF i3 (Int.ofNat 8))
 (∃ (a40 : Option Addr),
 ∃ (n41 : Nat),
 ∃ (n42 : Nat),
 ∃ (M43 : Mem),
 Ret Try.prog 65 [.int .i64 (Int.ofNat 0), .int .i64 (Int.ofNat 3)]
 (M ++
 [AObj.cells [.int .i64 p00, .string p01, .string p02, .slice p03 p03n p03c, .int .i64 p04] 5
 Mode.live])
 (.slice a40 n41 n42) M43 ∧
 K (.tuple (Array.mk [.slice a40 n41 n42, .bool true])) M43)
 (cnd (eqF i3 (Int.ofNat 9))
 (∃ (a44 : Option Addr),
 ∃ (n45 : Nat),
 ∃ (n46 : Nat),
 ∃ (M47 : Mem),
 Ret Try.prog 65 [.int .i64 (Int.ofNat 0), .int .i64 (Int.ofNat 1)]
 (M ++
 [AObj.cells [.int .i64 p00, .string p01, .string p02, .slice p03 p03n p03c, .int .i64 p04] 5
 Mode.live])
 (.slice a44 n45 n46) M47 ∧
 K (.tuple (Array.mk [.slice a44 n45 n46, .bool true])) M47)
 (cnd (eqF i3 (Int.ofNat 15))
 (∃ (a48 : Option Addr),
 ∃ (n49 : Nat),
 ∃ (n50 : Nat),
 ∃ (M51 : Mem),
 Ret Try.prog 65 [.int .i64 (Int.ofNat 3), .int .i64 (Int.ofNat 1)]
 (M ++
 [AObj.cells [.int .i64 p00, .string p01, .string p02, .slice p03 p03n p03c, .int .i64 p04] 5
 Mode.live])
 (.slice a48 n49 n50) M51 ∧
 K (.tuple (Array.mk [.slice a48 n49 n50, .bool true])) M51)
 (cnd (eqF i3 (Int.ofNat 29))
 (∃ (a52 : Option Addr),
 ∃ (n53 : Nat),
 ∃ (n54 : Nat),
 ∃ (M55 : Mem),
 Ret Try.prog 65 [.int .i64 (Int.ofNat 3), .int .i64 (Int.ofNat 1)]
 (M ++
 [AObj.cells [.int .i64 p00, .string p01, .string p02, .slice p03 p03n p03c, .int .i64 p04] 5
 Mode.live])
 (.slice a52 n53 n54) M55 ∧
 K (.tuple (Array.mk [.slice a52 n53 n54, .bool true])) M55)
 (cnd (eqF i3 (Int.ofNat 16))
 (∃ (a56 : Option Addr),
 ∃ (n57 : Nat),
 ∃ (n58 : Nat),
 ∃ (M59 : Mem),
 Ret Try.prog 65 [.int .i64 (Int.ofNat 2), .int .i64 (Int.ofNat 2)]
 (M ++
 [AObj.cells [.int .i64 p00, .string p01, .string p02, .slice p03 p03n p03c, .int .i64 p04] 5
 Mode.live])
 (.slice a56 n57 n58) M59 ∧
 K (.tuple (Array.mk [.slice a56 n57 n58, .bool true])) M59)
 (cnd (eqF i3 (Int.ofNat 21))
 (∃ (a60 : Option Addr),
 ∃ (n61 : Nat),
 ∃ (n62 : Nat),
 ∃ (M63 : Mem),
 Ret Try.prog 65 [.int .i64 (Int.ofNat 4), .int .i64 (Int.ofNat 1)]
 (M ++
 [AObj.cells [.int .i64 p00, .string p01, .string p02, .slice p03 p03n p03c, .int .i64 p04] 5
 Mode.live])
 (.slice a60 n61 n62) M63 ∧
 K (.tuple (Array.mk [.slice a60 n61 n62, .bool true])) M63)
 (cnd (eqF i3 (Int.ofNat 22))
 (∃ (a64 : Option Addr),
 ∃ (n65 : Nat),
 ∃ (n66 : Nat),
 ∃ (M67 : Mem),
 Ret Try.prog 65 [.int .i64 (Int.ofNat 5), .int .i64 (Int.ofNat 2)]
 (M ++
 [AObj.cells [.int .i64 p00, .string p01, .string p02, .slice p03 p03n p03c, .int .i64 p04]
 5 Mode.live])
 (.slice a64 n65 n66) M67 ∧
 K (.tuple (Array.mk [.slice a64 n65 n66, .bool true])) M67)
 (cnd (eqF i3 (Int.ofNat 23))
 (∃ (a68 : Option Addr),
 ∃ (n69 : Nat),
 ∃ (n70 : Nat),
 ∃ (M71 : Mem),
 Ret Try.prog 65 [.int .i64 (Int.ofNat 5), .int .i64 (Int.ofNat 2)]
 (M ++
 [AObj.cells
 [.int .i64 p00, .string p01, .string p02, .slice p03 p03n p03c, .int .i64 p04] 5
 Mode.live])
 (.slice a68 n69 n70) M71 ∧
 K (.tuple (Array.mk [.slice a68 n69 n70, .bool true])) M71)
 (cnd (eqF i3 (Int.ofNat 24))
 (∃ (a72 : Option Addr),
 ∃ (n73 : Nat),
 ∃ (n74 : Nat),
 ∃ (M75 : Mem),
 Ret Try.prog 65 [.int .i64 (Int.ofNat 5), .int .i64 (Int.ofNat 2)]
 (M ++
 [AObj.cells
 [.int .i64 p00, .string p01, .string p02, .slice p03 p03n p03c, .int .i64 p04] 5
 Mode.live])
 (.slice a72 n73 n74) M75 ∧
 K (.tuple (Array.mk [.slice a72 n73 n74, .bool true])) M75)
 (cnd (eqF i3 (Int.ofNat 33))
 (∃ (a76 : Option Addr),
 ∃ (n77 : Nat),
 ∃ (n78 : Nat),
 ∃ (M79 : Mem),
 Ret Try.prog 65 [.int .i64 (Int.ofNat 5), .int .i64 (Int.ofNat 2)]
 (M ++
 [AObj.cells
 [.int .i64 p00, .string p01, .string p02, .slice p03 p03n p03c, .int .i64 p04] 5
 Mode.live])
 (.slice a76 n77 n78) M79 ∧
 K (.tuple (Array.mk [.slice a76 n77 n78, .bool true])) M79)
 (cnd (eqF i3 (Int.ofNat 34))
 (∃ (a80 : Option Addr),
 ∃ (n81 : Nat),
 ∃ (n82 : Nat),
 ∃ (M83 : Mem),
 Ret Try.prog 65 [.int .i64 (Int.ofNat 5), .int .i64 (Int.ofNat 2)]
 (M ++
 [AObj.cells
 [.int .i64 p00, .string p01, .string p02, .slice p03 p03n p03c, .int .i64 p04]
 5 Mode.live])
 (.slice a80 n81 n82) M83 ∧
 K (.tuple (Array.mk [.slice a80 n81 n82, .bool true])) M83)
 (cnd (eqF i3 (Int.ofNat 25))
 (∃ (a84 : Option Addr),
 ∃ (n85 : Nat),
 ∃ (n86 : Nat),
 ∃ (M87 : Mem),
 Ret Try.prog 65 [.int .i64 (Int.ofNat 4), .int .i64 (Int.ofNat 2)]
 (M ++
 [AObj.cells
 [.int .i64 p00, .string p01, .string p02, .slice p03 p03n p03c,
 .int .i64 p04]
 5 Mode.live])
 (.slice a84 n85 n86) M87 ∧
 K (.tuple (Array.mk [.slice a84 n85 n86, .bool true])) M87)
 (cnd (eqF i3 (Int.ofNat 26))
 (∃ (a88 : Option Addr),
 ∃ (n89 : Nat),
 ∃ (n90 : Nat),
 ∃ (M91 : Mem),
 Ret Try.prog 65 [.int .i64 (Int.ofNat 4), .int .i64 (Int.ofNat 2)]
 (M ++
 [AObj.cells
 [.int .i64 p00, .string p01, .string p02, .slice p03 p03n p03c,
 .int .i64 p04]
 5 Mode.live])
 (.slice a88 n89 n90) M91 ∧
 K (.tuple (Array.mk [.slice a88 n89 n90, .bool true])) M91)
 (cnd (eqF i3 (Int.ofNat 31))
 (∃ (a92 : Option Addr),
 ∃ (n93 : Nat),
 ∃ (n94 : Nat),
 ∃ (M95 : Mem),
 Ret Try.prog 65 [.int .i64 (Int.ofNat 4), .int .i64 (Int.ofNat 2)]
 (M ++
 [AObj.cells
 [.int .i64 p00, .string p01, .string p02, .slice p03 p03n p03c,
 .int .i64 p04]
 5 Mode.live])
 (.slice a92 n93 n94) M95 ∧
 K (.tuple (Array.mk [.slice a92 n93 n94, .bool true])) M95)
 (cnd (eqF i3 (Int.ofNat 32))
 (∃ (a96 : Option Addr),
 ∃ (n97 : Nat),
 ∃ (n98 : Nat),
 ∃ (M99 : Mem),
 Ret Try.prog 65 [.int .i64 (Int.ofNat 4), .int .i64 (Int.ofNat 3)]
 (M ++
 [AObj.cells
 [.int .i64 p00, .string p01, .string p02, .slice p03 p03n p03c,
 .int .i64 p04]
 5 Mode.live])
 (.slice a96 n97 n98) M99 ∧
 K (.tuple (Array.mk [.slice a96 n97 n98, .bool true])) M99)
 (cnd (eqF i3 (Int.ofNat 35))
 (∃ (a100 : Option Addr),
 ∃ (n101 : Nat),
 ∃ (n102 : Nat),
 ∃ (M103 : Mem),
 Ret Try.prog 65 [.int .i64 (Int.ofNat 5), .int .i64 (Int.ofNat 1)]
 (M ++
 [AObj.cells
 [.int .i64 p00, .string p01, .string p02, .slice p03 p03n p03c,
 .int .i64 p04]
 5 Mode.live])
 (.slice a100 n101 n102) M103 ∧
 K (.tuple (Array.mk [.slice a100 n101 n102, .bool true])) M103)
 (cnd (eqF i3 (Int.ofNat 30))
 (K
 (.tuple
 (Array.mk
 [.slice
 (some
 (.mk
 (List.length
 (M ++
 [AObj.cells
 [.int .i64 p00, .string p01, .string p02, .slice p03 p03n p03c,
 .int .i64 p04]
 5 Mode.live]))
 0 none))
 2 2,
 .bool true]))
 (M ++
 [AObj.cells
 [.int .i64 p00, .string p01, .string p02, .slice p03 p03n p03c,
 .int .i64 p04]
 5 Mode.live] ++
 [AObj.cells [.int .i64 (Int.ofNat 4), .int .i64 (Int.ofNat 2)] 1 Mode.live]))
 (K (.tuple (Array.mk [.slice none 0 0, .bool true]))
 (M ++
 [AObj.cells
 [.int .i64 p00, .string p01, .string p02, .slice p03 p03n p03c,
 .int .i64 p04]
 5 Mode.live]))))))))))))))))))))))))))))) :
 wpRet Try.prog 35 true [] [.agg (Array.mk [.int .i64 p00, .string p01, .string p02, .slice p03 p03n p03c, .int .i64 p04])] M K := Eq.mpr (by kernel_rfl) h
theorem w36 {p00 : Int} {p01 p02 : ByteArray} {p03 : Option Addr} {p03n p03c : Nat} {p04 : Int} {M : Mem} {K : Value → Mem → Prop} (h : ∃ (s0 : ByteArray),
 rdVar Try.prog (M ++ [AObj.cells [.int .i64 p00, .string p01, .string p02, .slice p03 p03n p03c, .int .i64 p04] 5 Mode.live]) 9 (List.length M) 1 =
 some (Value.string s0) ∧
 ∃ (s1 : ByteArray),
 rdVar Try.prog (M ++ [AObj.cells [.int .i64 p00, .string p01, .string p02, .slice p03 p03n p03c, .int .i64 p04] 5 Mode.live]) 9 (List.length M)
 2 =
 some (Value.string s1) ∧
 True ∧
 ∃ (i2 : Int),
 rdVar Try.prog (M ++ [AObj.cells [.int .i64 p00, .string p01, .string p02, .slice p03 p03n p03c, .int .i64 p04] 5 Mode.live]) 3
 (List.length M) 0 =
 some (Value.int .i64 i2) ∧
 cnd (eqF i2 (Int.ofNat 0))
 (∃ (s3 : ByteArray),
 rdVar Try.prog (M ++ [AObj.cells [.int .i64 p00, .string p01, .string p02, .slice p03 p03n p03c, .int .i64 p04] 5 Mode.live]) 9
 (List.length M) 1 =
 some (Value.string s3) ∧
 ∃ (b4 : Bool),
 ∃ (M5 : Mem),
 Ret Try.prog 67 [.string s3]
 (M ++ [AObj.cells [.int .i64 p00, .string p01, .string p02, .slice p03 p03n p03c, .int .i64 p04] 5 Mode.live])
 (.bool b4) M5 ∧
 cnd b4 (K (.bool (eqS s1 (ByteArray.mk #[]))) M5) (K (.bool false) M5))
 (cnd (eqF i2 (Int.ofNat 35))
 (∃ (s6 : ByteArray),
 rdVar Try.prog (M ++ [AObj.cells [.int .i64 p00, .string p01, .string p02, .slice p03 p03n p03c, .int .i64 p04] 5 Mode.live]) 9
 (List.length M) 1 =
 some (Value.string s6) ∧
 ∃ (b7 : Bool),
 ∃ (M8 : Mem),
 Ret Try.prog 67 [.string s6]
 (M ++ [AObj.cells [.int .i64 p00, .string p01, .string p02, .slice p03 p03n p03c, .int .i64 p04] 5 Mode.live])
 (.bool b7) M8 ∧
 cnd b7 (K (.bool (eqS s1 (ByteArray.mk #[]))) M8) (K (.bool false) M8))
 (cnd (eqF i2 (Int.ofNat 1))
 (K (.bool (eqS s1 (ByteArray.mk #[])))
 (M ++ [AObj.cells [.int .i64 p00, .string p01, .string p02, .slice p03 p03n p03c, .int .i64 p04] 5 Mode.live]))
 (cnd (eqF i2 (Int.ofNat 5))
 (∃ (s9 : ByteArray),
 rdVar Try.prog (M ++ [AObj.cells [.int .i64 p00, .string p01, .string p02, .slice p03 p03n p03c, .int .i64 p04] 5 Mode.live]) 9
 (List.length M) 1 =
 some (Value.string s9) ∧
 ∃ (b10 : Bool),
 ∃ (M11 : Mem),
 Ret Try.prog 17 [.string s9]
 (M ++ [AObj.cells [.int .i64 p00, .string p01, .string p02, .slice p03 p03n p03c, .int .i64 p04] 5 Mode.live])
 (.bool b10) M11 ∧
 cnd b10 (K (.bool (eqS s1 (ByteArray.mk #[]))) M11) (K (.bool false) M11))
 (cnd (eqF i2 (Int.ofNat 13))
 (∃ (s12 : ByteArray),
 rdVar Try.prog (M ++ [AObj.cells [.int .i64 p00, .string p01, .string p02, .slice p03 p03n p03c, .int .i64 p04] 5 Mode.live])
 9 (List.length M) 1 =
 some (Value.string s12) ∧
 ∃ (b13 : Bool),
 ∃ (M14 : Mem),
 Ret Try.prog 17 [.string s12]
 (M ++ [AObj.cells [.int .i64 p00, .string p01, .string p02, .slice p03 p03n p03c, .int .i64 p04] 5 Mode.live])
 (.bool b13) M14 ∧
 ∃ (s15 : ByteArray),
 rdVar Try.prog M14 9 (List.length M) 2 = some (.string s15) ∧
 ∃ (b16 : Bool),
 ∃ (M17 : Mem), Ret Try.prog 17 [.string s15] M14 (.bool b16) M17 ∧ cnd b13 (K (.bool b16) M17) (K (.bool false) M17))
 (cnd (eqF i2 (Int.ofNat 6))
 (∃ (s18 : ByteArray),
 rdVar Try.prog
 (M ++ [AObj.cells [.int .i64 p00, .string p01, .string p02, .slice p03 p03n p03c, .int .i64 p04] 5 Mode.live]) 9
 (List.length M) 2 =
 some (Value.string s18) ∧
 ∃ (b19 : Bool),
 ∃ (M20 : Mem),
 Ret Try.prog 17 [.string s18]
 (M ++ [AObj.cells [.int .i64 p00, .string p01, .string p02, .slice p03 p03n p03c, .int .i64 p04] 5 Mode.live])
 (.bool b19) M20 ∧
 cnd (eqS s0 (ByteArray.mk #[])) (K (.bool b19) M20) (K (.bool false) M20))
 (cnd (eqF i2 (Int.ofNat 7))
 (∃ (s21 : ByteArray),
 rdVar Try.prog
 (M ++ [AObj.cells [.int .i64 p00, .string p01, .string p02, .slice p03 p03n p03c, .int .i64 p04] 5 Mode.live]) 9
 (List.length M) 2 =
 some (Value.string s21) ∧
 ∃ (b22 : Bool),
 ∃ (M23 : Mem),
 Ret Try.prog 17 [.string s21]
 (M ++ [AObj.cells [.int .i64 p00, .string p01, .string p02, .slice p03 p03n p03c, .int .i64 p04] 5 Mode.live])
 (.bool b22) M23 ∧
 cnd (eqS s0 (ByteArray.mk #[])) (K (.bool b22) M23) (K (.bool false) M23))
 (cnd (eqF i2 (Int.ofNat 15))
 (∃ (s24 : ByteArray),
 rdVar Try.prog
 (M ++ [AObj.cells [.int .i64 p00, .string p01, .string p02, .slice p03 p03n p03c, .int .i64 p04] 5 Mode.live]) 9
 (List.length M) 2 =
 some (Value.string s24) ∧
 ∃ (b25 : Bool),
 ∃ (M26 : Mem),
 Ret Try.prog 17 [.string s24]
 (M ++
 [AObj.cells [.int .i64 p00, .string p01, .string p02, .slice p03 p03n p03c, .int .i64 p04] 5 Mode.live])
 (.bool b25) M26 ∧
 cnd (eqS s0 (ByteArray.mk #[])) (K (.bool b25) M26) (K (.bool false) M26))
 (cnd (eqF i2 (Int.ofNat 16))
 (∃ (s27 : ByteArray),
 rdVar Try.prog
 (M ++ [AObj.cells [.int .i64 p00, .string p01, .string p02, .slice p03 p03n p03c, .int .i64 p04] 5 Mode.live])
 9 (List.length M) 2 =
 some (Value.string s27) ∧
 ∃ (b28 : Bool),
 ∃ (M29 : Mem),
 Ret Try.prog 17 [.string s27]
 (M ++
 [AObj.cells [.int .i64 p00, .string p01, .string p02, .slice p03 p03n p03c, .int .i64 p04] 5 Mode.live])
 (.bool b28) M29 ∧
 cnd (eqS s0 (ByteArray.mk #[])) (K (.bool b28) M29) (K (.bool false) M29))
 (cnd (eqF i2 (Int.ofNat 12))
 (∃ (s30 : ByteArray),
 rdVar Try.prog
 (M ++
 [AObj.cells [.int .i64 p00, .string p01, .string p02, .slice p03 p03n p03c, .int .i64 p04] 5 Mode.live])
 9 (List.length M) 1 =
 some (Value.string s30) ∧
 ∃ (a31 : Option Addr),
 ∃ (n32 : Nat),
 ∃ (n33 : Nat),
 ∃ (M34 : Mem),
 Ret Try.prog 68 []
 (M ++
 [AObj.cells [.int .i64 p00, .string p01, .string p02, .slice p03 p03n p03c, .int .i64 p04] 5
 Mode.live])
 (.slice a31 n32 n33) M34 ∧
 ∃ (b35 : Bool),
 ∃ (M36 : Mem),
 Ret Try.prog 41 [.string s30, .slice a31 n32 n33] M34 (.bool b35) M36 ∧
 (((List.length M <
 List.length
 (M ++
 [AObj.cells
 [.int .i64 p00, .string p01, .string p02, .slice p03 p03n p03c, .int .i64 p04]
 5 Mode.live]) →
 M34[List.length M]? =
 (M ++
 [AObj.cells
 [.int .i64 p00, .string p01, .string p02, .slice p03 p03n p03c, .int .i64 p04]
 5 Mode.live])[List.length M]?) ∧
 True) ∧
 True) ∧
 cnd b35 (K (.bool (eqS s1 (ByteArray.mk #[]))) M36) (K (.bool false) M36))
 (cnd (eqF i2 (Int.ofNat 14))
 (∃ (s41 : ByteArray),
 rdVar Try.prog
 (M ++
 [AObj.cells [.int .i64 p00, .string p01, .string p02, .slice p03 p03n p03c, .int .i64 p04] 5 Mode.live])
 9 (List.length M) 1 =
 some (Value.string s41) ∧
 ∃ (a42 : Option Addr),
 ∃ (n43 : Nat),
 ∃ (n44 : Nat),
 ∃ (M45 : Mem),
 Ret Try.prog 69 []
 (M ++
 [AObj.cells [.int .i64 p00, .string p01, .string p02, .slice p03 p03n p03c, .int .i64 p04] 5
 Mode.live])
 (.slice a42 n43 n44) M45 ∧
 ∃ (b46 : Bool),
 ∃ (M47 : Mem),
 Ret Try.prog 41 [.string s41, .slice a42 n43 n44] M45 (.bool b46) M47 ∧
 (((List.length M <
 List.length
 (M ++
 [AObj.cells
 [.int .i64 p00, .string p01, .string p02, .slice p03 p03n p03c,
 .int .i64 p04]
 5 Mode.live]) →
 M45[List.length M]? =
 (M ++
 [AObj.cells
 [.int .i64 p00, .string p01, .string p02, .slice p03 p03n p03c,
 .int .i64 p04]
 5 Mode.live])[List.length M]?) ∧
 True) ∧
 True) ∧
 cnd b46 (K (.bool (eqS s1 (ByteArray.mk #[]))) M47) (K (.bool false) M47))
 (cnd (eqF i2 (Int.ofNat 21))
 (∃ (s52 : ByteArray),
 rdVar Try.prog
 (M ++
 [AObj.cells [.int .i64 p00, .string p01, .string p02, .slice p03 p03n p03c, .int .i64 p04] 5
 Mode.live])
 9 (List.length M) 1 =
 some (Value.string s52) ∧
 ∃ (a53 : Option Addr),
 ∃ (n54 : Nat),
 ∃ (n55 : Nat),
 ∃ (M56 : Mem),
 Ret Try.prog 69 []
 (M ++
 [AObj.cells [.int .i64 p00, .string p01, .string p02, .slice p03 p03n p03c, .int .i64 p04] 5
 Mode.live])
 (.slice a53 n54 n55) M56 ∧
 ∃ (a57 : Option Addr),
 ∃ (n58 : Nat),
 ∃ (n59 : Nat),
 sliceA Try.prog M56 53 (.slice a53 n54 n55) (some (Value.int .i64 (Int.ofNat 1))) none none =
 some (Value.slice a57 n58 n59) ∧
 ∃ (b60 : Bool),
 ∃ (M61 : Mem),
 Ret Try.prog 41 [.string s52, .slice a57 n58 n59] M56 (.bool b60) M61 ∧
 (((List.length M <
 List.length
 (M ++
 [AObj.cells
 [.int .i64 p00, .string p01, .string p02, .slice p03 p03n p03c,
 .int .i64 p04]
 5 Mode.live]) →
 M56[List.length M]? =
 (M ++
 [AObj.cells
 [.int .i64 p00, .string p01, .string p02, .slice p03 p03n p03c,
 .int .i64 p04]
 5 Mode.live])[List.length M]?) ∧
 True) ∧
 True) ∧
 cnd b60 (K (.bool (eqS s1 (ByteArray.mk #[]))) M61) (K (.bool false) M61))
 (cnd (eqS s0 (ByteArray.mk #[]))
 (K (.bool (eqS s1 (ByteArray.mk #[])))
 (M ++
 [AObj.cells [.int .i64 p00, .string p01, .string p02, .slice p03 p03n p03c, .int .i64 p04] 5 Mode.live]))
 (K (.bool false)
 (M ++
 [AObj.cells [.int .i64 p00, .string p01, .string p02, .slice p03 p03n p03c, .int .i64 p04] 5
 Mode.live]))))))))))))))) :
 wpRet Try.prog 36 true [] [.agg (Array.mk [.int .i64 p00, .string p01, .string p02, .slice p03 p03n p03c, .int .i64 p04])] M K := Eq.mpr (by kernel_rfl) h
theorem w13 {p00 : Int} {p01 p02 : ByteArray} {p03 : Option Addr} {p03n p03c : Nat} {p04 : Int} {M : Mem} {K : Value → Mem → Prop} (h : ∃ (i0 : Int),
 ∃ (s1 : ByteArray),
 ∃ (s2 : ByteArray),
 ∃ (a3 : Option Addr),
 ∃ (n4 : Nat),
 ∃ (n5 : Nat),
 ∃ (i6 : Int),
 rdVar Try.prog (M ++ [AObj.cells [.int .i64 p00, .string p01, .string p02, .slice p03 p03n p03c, .int .i64 p04] 5 Mode.live]) 24
 (List.length M) 0 =
 some (Value.agg (Array.mk [.int .i64 i0, .string s1, .string s2, .slice a3 n4 n5, .int .i64 i6])) ∧
 ∃ (a7 : Option Addr),
 ∃ (n8 : Nat),
 ∃ (n9 : Nat),
 ∃ (b10 : Bool),
 ∃ (M11 : Mem),
 Ret Try.prog 35 [.agg (Array.mk [.int .i64 i0, .string s1, .string s2, .slice a3 n4 n5, .int .i64 i6])]
 (M ++ [AObj.cells [.int .i64 p00, .string p01, .string p02, .slice p03 p03n p03c, .int .i64 p04] 5 Mode.live])
 (.tuple (Array.mk [.slice a7 n8 n9, .bool b10])) M11 ∧
 ∃ (i12 : Int),
 rdVar Try.prog M11 3 (List.length M) 0 = some (.int .i64 i12) ∧
 cnd (!leF (Int.ofNat 0) i12) (K (.tuple (Array.mk [.slice none 0 0, .bool false])) M11)
 (∃ (i13 : Int),
 rdVar Try.prog M11 3 (List.length M) 0 = some (.int .i64 i13) ∧
 cnd (!leF i13 (Int.ofNat 35)) (K (.tuple (Array.mk [.slice none 0 0, .bool false])) M11)
 (∃ (i14 : Int),
 ∃ (s15 : ByteArray),
 ∃ (s16 : ByteArray),
 ∃ (a17 : Option Addr),
 ∃ (n18 : Nat),
 ∃ (n19 : Nat),
 ∃ (i20 : Int),
 rdVar Try.prog M11 24 (List.length M) 0 =
 some
 (.agg
 (Array.mk
 [.int .i64 i14, .string s15, .string s16, .slice a17 n18 n19, .int .i64 i20])) ∧
 ∃ (b21 : Bool),
 ∃ (M22 : Mem),
 Ret Try.prog 36
 [.agg
 (Array.mk
 [.int .i64 i14, .string s15, .string s16, .slice a17 n18 n19, .int .i64 i20])]
 M11 (.bool b21) M22 ∧
 cnd (!b21) (K (.tuple (Array.mk [.slice none 0 0, .bool false])) M22)
 (cnd (!b10) (K (.tuple (Array.mk [.slice none 0 0, .bool false])) M22)
 (∃ (a23 : Option Addr),
 ∃ (n24 : Nat),
 ∃ (n25 : Nat),
 rdVar Try.prog M22 22 (List.length M) 3 = some (.slice a23 n24 n25) ∧
 cnd (!eqF (Int.ofNat n8) (Int.ofNat n24)) (K (.tuple (Array.mk [.slice none 0 0, .bool false])) M22)
 (K (.tuple (Array.mk [.slice a7 n8 n9, .bool true])) M22)))))) :
 wpRet Try.prog 13 true [] [.agg (Array.mk [.int .i64 p00, .string p01, .string p02, .slice p03 p03n p03c, .int .i64 p04])] M K := Eq.mpr (by kernel_rfl) h
theorem w9 {p00 : Int} {p01 p02 : ByteArray} {p03 : Option Addr} {p03n p03c : Nat} {p04 : Int} {M : Mem} {K : Value → Mem → Prop} (h : ∃ (a0 : Option Addr),
 ∃ (n1 : Nat),
 ∃ (n2 : Nat),
 rdVar Try.prog
 (M ++ [AObj.cells [.int .i64 p00, .string p01, .string p02, .slice p03 p03n p03c, .int .i64 p04] 5 Mode.live] ++
 [AObj.cells [.int .i64 (Int.ofNat 0), .string (ByteArray.mk #[]), .string (ByteArray.mk #[]), .slice none 0 0, .int .i64 (Int.ofNat 0)]
 5 Mode.live] ++
 [AObj.cells [] 1 Mode.live])
 22 (List.length M) 3 =
 some (Value.slice a0 n1 n2) ∧
 ∃ (a3 : Option Addr),
 ∃ (n4 : Nat),
 ∃ (n5 : Nat),
 rdVar Try.prog
 (M ++ [AObj.cells [.int .i64 p00, .string p01, .string p02, .slice p03 p03n p03c, .int .i64 p04] 5 Mode.live] ++
 [AObj.cells
 [.int .i64 (Int.ofNat 0), .string (ByteArray.mk #[]), .string (ByteArray.mk #[]), .slice none 0 0, .int .i64 (Int.ofNat 0)]
 5 Mode.live] ++
 [AObj.cells [] 1 Mode.live])
 22 (List.length M) 3 =
 some (Value.slice a3 n4 n5) ∧
 ∃ (a6 : Option Addr),
 ∃ (n7 : Nat),
 ∃ (n8 : Nat),
 sliceA Try.prog
 (M ++ [AObj.cells [.int .i64 p00, .string p01, .string p02, .slice p03 p03n p03c, .int .i64 p04] 5 Mode.live] ++
 [AObj.cells
 [.int .i64 (Int.ofNat 0), .string (ByteArray.mk #[]), .string (ByteArray.mk #[]), .slice none 0 0,
 .int .i64 (Int.ofNat 0)]
 5 Mode.live] ++
 [AObj.cells [] 1 Mode.live])
 22 (.slice a0 n1 n2) none (some (Value.int .i64 (if Int.ofNat 140 < Int.ofNat n4 then Int.ofNat 140 else Int.ofNat n4))) none =
 some (Value.slice a6 n7 n8) ∧
 ∃ (a9 : Option Addr),
 ∃ (n10 : Nat),
 ∃ (n11 : Nat),
 ∃ (M12 : Mem),
 appendA Try.prog
 (M ++ [AObj.cells [.int .i64 p00, .string p01, .string p02, .slice p03 p03n p03c, .int .i64 p04] 5 Mode.live] ++
 [AObj.cells
 [.int .i64 (Int.ofNat 0), .string (ByteArray.mk #[]), .string (ByteArray.mk #[]), .slice none 0 0,
 .int .i64 (Int.ofNat 0)]
 5 Mode.live] ++
 [AObj.cells [] 1 Mode.live])
 22 22
 (.slice
 (some
 (.mk
 (List.length
 (M ++
 [AObj.cells [.int .i64 p00, .string p01, .string p02, .slice p03 p03n p03c, .int .i64 p04] 5
 Mode.live] ++
 [AObj.cells
 [.int .i64 (Int.ofNat 0), .string (ByteArray.mk #[]), .string (ByteArray.mk #[]), .slice none 0 0,
 .int .i64 (Int.ofNat 0)]
 5 Mode.live]))
 0 none))
 0 0)
 (.slice a6 n7 n8) =
 some (Value.slice a9 n10 n11, M12) ∧
 ∃ (M13 : Mem),
 wrCells M12 (List.length M) 3 [.slice a9 n10 n11] = some M13 ∧
 ∃ (s14 : ByteArray),
 rdVar Try.prog M13 9 (List.length M) 1 = some (.string s14) ∧
 ∃ (s15 : ByteArray),
 rdVar Try.prog M13 9 (List.length M) 1 = some (.string s15) ∧
 ∃ (s16 : ByteArray),
 sliceA Try.prog M13 9 (.string s14) none
 (some (Value.int .i64 (if Int.ofNat 40 < Int.ofNat (ByteArray.size s15) then Int.ofNat 40 else Int.ofNat (ByteArray.size s15))))
 none =
 some (Value.string s16) ∧
 ∃ (M17 : Mem),
 wrCells M13 (List.length M) 1 [.string s16] = some M17 ∧
 ∃ (s18 : ByteArray),
 rdVar Try.prog M17 9 (List.length M) 2 = some (.string s18) ∧
 ∃ (s19 : ByteArray),
 rdVar Try.prog M17 9 (List.length M) 2 = some (.string s19) ∧
 ∃ (s20 : ByteArray),
 sliceA Try.prog M17 9 (.string s18) none
 (some
 (.int .i64
 (if Int.ofNat 40 < Int.ofNat (ByteArray.size s19) then Int.ofNat 40 else Int.ofNat (ByteArray.size s19))))
 none =
 some (Value.string s20) ∧
 ∃ (M21 : Mem),
 wrCells M17 (List.length M) 2 [.string s20] = some M21 ∧
 ∃ (i22 : Int),
 ∃ (s23 : ByteArray),
 ∃ (s24 : ByteArray),
 ∃ (a25 : Option Addr),
 ∃ (n26 : Nat),
 ∃ (n27 : Nat),
 ∃ (i28 : Int),
 rdVar Try.prog M21 24 (List.length M) 0 =
 some
 (.agg
 (Array.mk
 [.int .i64 i22, .string s23, .string s24, .slice a25 n26 n27,
 .int .i64 i28])) ∧
 ∃ (M29 : Mem),
 wrCells M21
 (List.length
 (M ++
 [AObj.cells
 [.int .i64 p00, .string p01, .string p02,
 .slice p03 p03n p03c, .int .i64 p04]
 5 Mode.live]))
 0
 [.int .i64 i22, .string s23, .string s24, .slice a25 n26 n27,
 .int .i64 i28] =
 some M29 ∧
 ∃ (i30 : Int),
 ∃ (s31 : ByteArray),
 ∃ (s32 : ByteArray),
 ∃ (a33 : Option Addr),
 ∃ (n34 : Nat),
 ∃ (n35 : Nat),
 ∃ (i36 : Int),
 rdVar Try.prog M29 24
 (List.length
 (M ++
 [AObj.cells
 [.int .i64 p00, .string p01, .string p02,
 .slice p03 p03n p03c, .int .i64 p04]
 5 Mode.live]))
 0 =
 some
 (.agg
 (Array.mk
 [.int .i64 i30, .string s31, .string s32,
 .slice a33 n34 n35, .int .i64 i36])) ∧
 K
 (.agg
 (Array.mk
 [.int .i64 i30, .string s31, .string s32,
 .slice a33 n34 n35, .int .i64 i36]))
 M29) :
 wpRet Try.prog 9 true [] [.agg (Array.mk [.int .i64 p00, .string p01, .string p02, .slice p03 p03n p03c, .int .i64 p04])] M K := Eq.mpr (by kernel_rfl) h

end Go.Proofs.YtabkcbaknjenmaaAM
