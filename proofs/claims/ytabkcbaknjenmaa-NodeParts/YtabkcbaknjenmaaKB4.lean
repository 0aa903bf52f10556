/-
  Part KB4 of the proof: merged texts.
-/
import Derived.Test.YtabkcbaknjenmaaKB2
import Derived.Test.YtabkcbaknjenmaaKA3
import Derived.Test.YtabkcbaknjenmaaRows

/-
  THE NODE LAWS: what the program answers of a kind's word, of a node's kids.
-/
set_option linter.unusedVariables false
set_option linter.unusedSimpArgs false
namespace Go.Proofs.YtabkcbaknjenmaaAM
open Go Go.Proofs
set_option maxRecDepth 100000
set_option maxHeartbeats 4000000

/-- The word of a kind. -/
def wordS (i : Int) : ByteArray := cond (leF (Int.ofNat 0) i && leF i (Int.ofNat 35)) (wordsL.getD i.toNat noText) noText
theorem kind_cases (i : Int) : (∃ k, k < 36 ∧ i = Int.ofNat k) ∨ ¬ (0 ≤ i ∧ i ≤ 35) := by
  by_cases h : 0 ≤ i ∧ i ≤ 35
  · exact .inl ⟨i.toNat, by omega, by show i = ((i.toNat : Nat) : Int); omega⟩
  · exact .inr h
theorem wordS_in {k : Nat} (h : k < 36) : wordS (Int.ofNat k) = wordsL.getD k noText := by
  unfold wordS
  rw [leF_t.2 (show Int.ofNat 0 ≤ Int.ofNat k from Int.natCast_nonneg k), leF_t.2 (show Int.ofNat k ≤ Int.ofNat 35 from Int.ofNat_le.2 (by omega))]
  rfl
theorem out_false {i : Int} (h : ¬ (0 ≤ i ∧ i ≤ 35)) : (leF (Int.ofNat 0) i && leF i (Int.ofNat 35)) = false := by
  rw [← Bool.not_eq_true, Bool.and_eq_true, leF_t, leF_t]; exact h
theorem wordS_out {i : Int} (h : ¬ (0 ≤ i ∧ i ≤ 35)) : wordS i = noText := by
  unfold wordS
  rw [out_false h]; rfl
theorem kidsS_out {i : Int} (h : ¬ (0 ≤ i ∧ i ≤ 35)) (nm ar : ByteArray) (n : Nat) : kidsS i nm ar n = none := by
  unfold kidsS
  rw [← Bool.and_assoc, out_false h]; rfl
theorem fn_form {M : Mem} {fv : Value} {f : ByteArray → Bool} (h : NameFn M fv f) : fv = .nilFunc ∨ ∃ g cap, fv = .func (.func g) #[] ⟨cap⟩ := by
  rcases h with ⟨h, _⟩ | ⟨g, cap, h, _⟩
  · exact .inl h
  · exact .inr ⟨g, cap, h⟩

theorem word_ret (i : Int) (M : Mem) : Ret Try.prog 14 [.int .i64 i] M (.string (wordS i)) M := by
  suffices h : ∃ v M', Ret Try.prog 14 [.int .i64 i] [] v M' ∧ v = .string (wordS i) by
    obtain ⟨v, M', h, rfl⟩ := h
    exact h.plain rfl rfl M
  refine Ret.wpH hP (w14 ⟨_, _, rows_ret [], ?_⟩)
  rcases kind_cases i with ⟨k, hk, rfl⟩ | h
  · obtain ⟨j, fv, fk, f, g, b, hf, hn, hg, _⟩ := rowAt [] k hk
    have hl := lookup_es (M := [] ++ rowsM 0) (x := 0) rfl hf false
    obtain ⟨id, cap, rfl, _⟩ := hg
    rw [wordS_in hk]
    rcases fn_form hn with rfl | ⟨g0, cap0, rfl⟩
    · exact ⟨_, .inr ⟨b, .inl ⟨id, cap, hl, rfl⟩⟩⟩
    · exact ⟨_, .inl ⟨g0, cap0, b, .inl ⟨id, cap, hl, rfl⟩⟩⟩
  · have hl := lookup_no (M := [] ++ rowsM 0) (x := 0) (es := rowsEs 0) rfl (find_out h) false
    rw [wordS_out h]
    exact ⟨_, .inr ⟨false, .inr ⟨hl, rfl⟩⟩⟩

theorem s60 : sizeT Try.prog 60 = some 4 := by kernel_rfl
theorem k60 : (kindT Try.prog 60).map aggK = some true := by kernel_rfl
theorem wr_last {M : Mem} {vs new : List Value} {u : Nat} (h : new.length = vs.length) (h1 : new.all Value.oneCell' = true) : wrCells (M ++ [AObj.cells vs u .live]) M.length 0 new = some (M ++ [AObj.cells new u .live]) := by
  rw [wrCells_at (get_last M _) (by omega) h1, set_last]
  have : splice vs 0 new = new := by
    unfold splice
    simp [h]
  rw [this]
theorem kids_ret {i : Int} {nm ar : ByteArray} {a : Option Addr} {n c : Nat} {pos : Int} (hn : Short nm) (ha : Short ar) (hk : n ≤ 1000000) (M : Mem) : ∃ v M', Ret Try.prog 12 [.agg ⟨nodeV i nm ar a n c pos⟩] M v M' ∧ Keep M M' ∧ KidsRes M' v (kidsS i nm ar n) := by
  have hAt := At.last M (nodeV i nm ar a n c pos) 5
  have hK : Keep M (M ++ [AObj.cells (nodeV i nm ar a n c pos) 5 .live]) := .app _ _
  have hk1 : Keep (M ++ [AObj.cells (nodeV i nm ar a n c pos) 5 .live]) ((M ++ [AObj.cells (nodeV i nm ar a n c pos) 5 .live]) ++ rowsM (M ++ [AObj.cells (nodeV i nm ar a n c pos) 5 .live]).length) := .app _ _
  have hA1 := hAt.keep hk1
  have hmap : ((M ++ [AObj.cells (nodeV i nm ar a n c pos) 5 .live]) ++ rowsM (M ++ [AObj.cells (nodeV i nm ar a n c pos) 5 .live]).length)[(M ++ [AObj.cells (nodeV i nm ar a n c pos) 5 .live]).length]? = some (.map (rowsEs (M ++ [AObj.cells (nodeV i nm ar a n c pos) 5 .live]).length)) := by
    have := rows_get (M ++ [AObj.cells (nodeV i nm ar a n c pos) 5 .live]) 0 rfl
    rwa [Nat.add_zero] at this
  have hrows := rows_ret (M ++ [AObj.cells (nodeV i nm ar a n c pos) 5 .live])
  obtain ⟨M1, hM1⟩ : ∃ M1, (M ++ [AObj.cells (nodeV i nm ar a n c pos) 5 .live]) ++ rowsM (M ++ [AObj.cells (nodeV i nm ar a n c pos) 5 .live]).length = M1 := ⟨_, rfl⟩
  rw [hM1] at hk1 hA1 hmap hrows
  refine Ret.wpH hP (K := fun v M' => Keep M M' ∧ KidsRes M' v (kidsS i nm ar n)) (w12 (p00 := i) (p01 := nm) (p02 := ar) (p03 := a) (p03n := n) (p03c := c) (p04 := pos) (M := M) ⟨_, _, hrows, _, hA1.rd k3 rfl, ?_⟩)
  have hK1 := hK.trans hk1
  rcases kind_cases i with ⟨k, hlt, rfl⟩ | h
  · obtain ⟨j, fv, fk, f, g, b, hf, hnf, hg, heq⟩ := rowAt (M ++ [AObj.cells (nodeV (Int.ofNat k) nm ar a n c pos) 5 .live]) k hlt
    rw [hM1] at hnf hg
    have hl := lookup_es hmap hf true
    have hkM : Keep M1 (M1 ++ [AObj.cells (rowV (wordsL.getD k noText) fv b fk) 4 .live]) := .app _ _
    have hA2 := hA1.keep hkM
    have hR := At.last M1 (rowV (wordsL.getD k noText) fv b fk) 4
    have nf' : NameFn (M1 ++ [AObj.cells (rowV (wordsL.getD k noText) fv b fk) 4 .live]) fv f := by
      rcases hnf with hnf | ⟨g0, cap0, e, hw, hall⟩
      · exact .inl hnf
      · exact .inr ⟨g0, cap0, e, hw, fun s M' hs hk' => hall s M' hs (hkM.trans hk')⟩
    have kf' : KidsFn (M1 ++ [AObj.cells (rowV (wordsL.getD k noText) fv b fk) 4 .live]) fk g := by
      obtain ⟨id, cap, e, hw, hall⟩ := hg
      exact ⟨id, cap, e, hw, fun i nm ar a n c pos M' hs hn' hk' => hall i nm ar a n c pos M' hs hn' (hkM.trans hk')⟩
    obtain ⟨v, M2, h1, h2, h3⟩ := sorts34_ret (w := wordsL.getD k noText) (b := b) nf' kf' (i := Int.ofNat k) (nm := nm) (ar := ar) (a := a) (n := n) (c := c) (pos := pos) hn ha hk
    rw [heq] at h3
    have hres : ∃ a' n' c' b', v = .tuple ⟨[.slice a' n' c', .bool b']⟩ := by
      unfold KidsRes at h3
      split at h3
      · exact ⟨_, _, _, _, h3⟩
      · obtain ⟨a', c', e, _⟩ := h3; exact ⟨_, _, _, _, e⟩
    obtain ⟨a', n', c', b', rfl⟩ := hres
    have hcalm : (M.length < (M ++ [AObj.cells (nodeV (Int.ofNat k) nm ar a n c pos) 5 .live]).length → M1[M.length]? = (M ++ [AObj.cells (nodeV (Int.ofNat k) nm ar a n c pos) 5 .live])[M.length]?) := fun hl => hk1.same hl
    have hone : (rowV (wordsL.getD k noText) fv b fk).all Value.oneCell' = true := by
      obtain ⟨id, cap, e, _⟩ := hg
      subst e
      rcases fn_form hnf with e | ⟨g0, cap0, e⟩ <;> subst e <;> rfl
    have hwr := wr_last (M := M1) (vs := [.string (ByteArray.mk #[]), .nilFunc, .bool false, .nilFunc]) (new := rowV (wordsL.getD k noText) fv b fk) (u := 4) rfl hone
    have hrow := hR.rdA k60 s60
    have hnode := hA2.rdA k24 s24
    have hKK := (hK1.trans hkM).trans h2
    obtain ⟨id, cap, e, _⟩ := hg
    subst e
    rcases fn_form hnf with e | ⟨g0, cap0, e⟩
    · subst e
      exact ⟨_, .inr ⟨b, .inl ⟨id, cap, true, hl, _, hwr, ⟨⟨hcalm, trivial⟩, trivial⟩, cnd_t ⟨_, .inr ⟨b, .inl ⟨id, cap, hrow, _, _, _, _, _, _, _, hnode, _, _, _, _, _, h1, hKK, h3⟩⟩⟩⟩⟩⟩
    · subst e
      exact ⟨_, .inl ⟨g0, cap0, b, .inl ⟨id, cap, true, hl, _, hwr, ⟨⟨hcalm, trivial⟩, trivial⟩, cnd_t ⟨_, .inl ⟨g0, cap0, b, .inl ⟨id, cap, hrow, _, _, _, _, _, _, _, hnode, _, _, _, _, _, h1, hKK, h3⟩⟩⟩⟩⟩⟩
  · have hl := lookup_no hmap (find_out h) true
    have hcalm : (M.length < (M ++ [AObj.cells (nodeV i nm ar a n c pos) 5 .live]).length → M1[M.length]? = (M ++ [AObj.cells (nodeV i nm ar a n c pos) 5 .live])[M.length]?) := fun hl => hk1.same hl
    have hwr := wr_last (M := M1) (vs := [.string (ByteArray.mk #[]), .nilFunc, .bool false, .nilFunc]) (new := rowV ⟨#[]⟩ .nilFunc false .nilFunc) (u := 4) rfl rfl
    refine ⟨_, .inr ⟨false, .inr ⟨false, hl, _, hwr, ⟨⟨hcalm, trivial⟩, trivial⟩, cnd_f ⟨hK1.one _, ?_⟩⟩⟩⟩
    rw [kidsS_out h]; rfl

end Go.Proofs.YtabkcbaknjenmaaAM

/-
  THE NODE LAWS: of which sort a kind is.
-/
set_option linter.unusedVariables false
set_option linter.unusedSimpArgs false
namespace Go.Proofs.YtabkcbaknjenmaaAM
open Go Go.Proofs
set_option maxRecDepth 100000
set_option maxHeartbeats 4000000

def betw (lo hi : Nat) (i : Int) : Bool := leF (Int.ofNat lo) i && leF i (Int.ofNat hi)
theorem betw_t {lo hi : Nat} {i : Int} : betw lo hi i = true ↔ (lo : Int) ≤ i ∧ i ≤ (hi : Int) := by
  unfold betw
  rw [Bool.and_eq_true, leF_t, leF_t]; exact Iff.rfl
def termS (i : Int) : Bool := betw 0 5 i || betw 31 32 i
def isS (i s : Int) : Bool :=
  cond (eqF s (Int.ofNat 0)) (betw 0 12 i) (cond (eqF s (Int.ofNat 1)) (betw 13 13 i) (cond (eqF s (Int.ofNat 2)) (betw 14 18 i) (cond (eqF s (Int.ofNat 3)) (betw 19 30 i)
    (cond (eqF s (Int.ofNat 5)) (betw 33 35 i || termS i) (cond (eqF s (Int.ofNat 4)) (termS i) false)))))
theorem eq_betw (k : Nat) (i : Int) : eqF i (Int.ofNat k) = betw k k i := by
  rw [Bool.eq_iff_iff, eqF_t, betw_t]
  show i = (k : Int) ↔ _; omega
theorem two_betw (i : Int) : (eqF i (Int.ofNat 31) || eqF i (Int.ofNat 32)) = betw 31 32 i := by
  rw [Bool.eq_iff_iff, Bool.or_eq_true, eqF_t, eqF_t, betw_t]
  show i = 31 ∨ i = 32 ↔ (31 : Int) ≤ i ∧ i ≤ 32; omega

theorem from_ret {M : Mem} {x lo hi : Nat} {i : Int} (h : At M x [.int .i64 i]) : Ret Try.prog 42 [.int .i64 (Int.ofNat lo), .int .i64 (Int.ofNat hi), .pointer (some ⟨x, 0, none⟩)] M (.bool (betw lo hi i)) M := by
  refine Ret.wpToH hP (w42 ⟨_, h.rd k3 rfl, cnd_of (fun e => ⟨_, h.rd k3 rfl, ?_, rfl⟩) (fun e => ⟨?_, rfl⟩)⟩)
  · unfold betw; rw [e]; rfl
  · unfold betw; rw [e]; rfl
theorem isS_4 (i : Int) : isS i (Int.ofNat 4) = termS i := rfl
theorem is4_ret (i : Int) (M : Mem) : Ret Try.prog 18 [.int .i64 i, .int .i64 (Int.ofNat 4)] M (.bool (termS i)) M := by
  have hA := At.last M [.int .i64 i] 1
  obtain ⟨v, M', h, rfl, rfl⟩ := Ret.wpH hP (K := fun v M' => v = .bool (termS i) ∧ M' = M ++ [AObj.cells [.int .i64 i] 1 .live]) (w18 (p0 := i) (p1 := Int.ofNat 4) (M := M) (by
    refine cnd_f' (by decide) (cnd_f' (by decide) (cnd_f' (by decide) (cnd_f' (by decide) (cnd_f' (by decide) (cnd_t' (by decide) ⟨_, _, from_ret hA, cnd_of (fun e => ⟨?_, rfl⟩) (fun e => ⟨_, _, from_ret hA, ?_, rfl⟩)⟩)))))
    · unfold termS; rw [e]; rfl
    · unfold termS; rw [e]; rfl))
  exact h.drop rfl
theorem is_ret (i s : Int) (M : Mem) : Ret Try.prog 18 [.int .i64 i, .int .i64 s] M (.bool (isS i s)) M := by
  have hA := At.last M [.int .i64 i] 1
  obtain ⟨v, M', h, rfl, rfl⟩ := Ret.wpH hP (K := fun v M' => v = .bool (isS i s) ∧ M' = M ++ [AObj.cells [.int .i64 i] 1 .live]) (w18 (p0 := i) (p1 := s) (M := M) (by
    unfold isS
    refine cnd_of (fun e => ?_) (fun e => ?_) <;> rw [e]
    · exact ⟨_, _, from_ret hA, rfl, rfl⟩
    refine cnd_of (fun e => ?_) (fun e => ?_) <;> rw [e]
    · exact ⟨_, _, from_ret hA, rfl, rfl⟩
    refine cnd_of (fun e => ?_) (fun e => ?_) <;> rw [e]
    · exact ⟨_, _, from_ret hA, rfl, rfl⟩
    refine cnd_of (fun e => ?_) (fun e => ?_) <;> rw [e]
    · exact ⟨_, _, from_ret hA, rfl, rfl⟩
    refine cnd_of (fun e => ?_) (fun e => ?_) <;> rw [e]
    · refine ⟨_, _, from_ret hA, cnd_of (fun e => ⟨?_, rfl⟩) (fun e => ⟨_, hA.rd k3 rfl, _, _, is4_ret i _, ?_, rfl⟩)⟩
      · rw [e]; rfl
      · rw [e]; rfl
    refine cnd_of (fun e => ?_) (fun e => ?_) <;> rw [e]
    · refine ⟨_, _, from_ret hA, cnd_of (fun e => ⟨?_, rfl⟩) (fun e => ⟨_, _, from_ret hA, ?_, rfl⟩)⟩
      · unfold termS; rw [e]; rfl
      · unfold termS; rw [e]; rfl
    · exact ⟨rfl, rfl⟩))
  exact h.drop rfl

theorem refIs4_ret (i : Int) (M : Mem) : Ret Try.prog 19 [.int .i64 i, .int .i64 (Int.ofNat 4)] M (.bool (termS i)) M := by
  refine Ret.wpToH hP (w19 (p0 := i) (p1 := Int.ofNat 4) (M := M) (cnd_f' (by decide) (cnd_f' (by decide) (cnd_f' (by decide) (cnd_f' (by decide) (cnd_t' (by decide) ?_))))))
  have e0 : termS i = ((leF (Int.ofNat 0) i && leF i (Int.ofNat 5)) || (eqF i (Int.ofNat 31) || eqF i (Int.ofNat 32))) := by rw [two_betw]; rfl
  rw [e0]
  refine cnd_of (fun e => ?_) (fun e => ?_) <;> rw [e]
  · refine cnd_of (fun e => ?_) (fun e => ?_) <;> rw [e]
    · exact ⟨rfl, rfl⟩
    · refine cnd_of (fun e => ?_) (fun e => ?_) <;> rw [e]
      · exact ⟨rfl, rfl⟩
      · exact ⟨rfl, rfl⟩
  · refine cnd_of (fun e => ?_) (fun e => ?_) <;> rw [e]
    · exact ⟨rfl, rfl⟩
    · exact ⟨rfl, rfl⟩
theorem refIs_ret (i s : Int) (M : Mem) : Ret Try.prog 19 [.int .i64 i, .int .i64 s] M (.bool (isS i s)) M := by
  refine Ret.wpToH hP (w19 (p0 := i) (p1 := s) (M := M) ?_)
  have two : ∀ {lo hi : Nat}, cnd (leF (Int.ofNat lo) i) (Value.bool (leF i (Int.ofNat hi)) = .bool (betw lo hi i) ∧ M = M) (Value.bool false = .bool (betw lo hi i) ∧ M = M) := fun {lo hi} => cnd_of (fun e => ⟨by unfold betw; rw [e]; rfl, rfl⟩) (fun e => ⟨by unfold betw; rw [e]; rfl, rfl⟩)
  by_cases h4 : s = Int.ofNat 4
  · subst h4
    obtain ⟨v, M', h, h2⟩ : ∃ v M', Ret Try.prog 19 [.int .i64 i, .int .i64 (Int.ofNat 4)] M v M' ∧ (v = .bool (termS i) ∧ M' = M) := ⟨_, _, refIs4_ret i M, rfl, rfl⟩
    rw [isS_4]
    refine cnd_f' (by decide) (cnd_f' (by decide) (cnd_f' (by decide) (cnd_f' (by decide) (cnd_t' (by decide) ?_))))
    have e0 : termS i = ((leF (Int.ofNat 0) i && leF i (Int.ofNat 5)) || (eqF i (Int.ofNat 31) || eqF i (Int.ofNat 32))) := by rw [two_betw]; rfl
    rw [e0]
    refine cnd_of (fun e => ?_) (fun e => ?_) <;> rw [e]
    · refine cnd_of (fun e => ?_) (fun e => ?_) <;> rw [e]
      · exact ⟨rfl, rfl⟩
      · refine cnd_of (fun e => ?_) (fun e => ?_) <;> rw [e]
        · exact ⟨rfl, rfl⟩
        · exact ⟨rfl, rfl⟩
    · refine cnd_of (fun e => ?_) (fun e => ?_) <;> rw [e]
      · exact ⟨rfl, rfl⟩
      · exact ⟨rfl, rfl⟩
  · have h4' : eqF s (Int.ofNat 4) = false := eqF_f.2 h4
    unfold isS
    refine cnd_of (fun e => ?_) (fun e => ?_) <;> rw [e]
    · exact two
    refine cnd_of (fun e => ?_) (fun e => ?_) <;> rw [e]
    · rw [eq_betw]; exact ⟨rfl, rfl⟩
    refine cnd_of (fun e => ?_) (fun e => ?_) <;> rw [e]
    · exact two
    refine cnd_of (fun e => ?_) (fun e => ?_) <;> rw [e]
    · exact two
    refine cnd_f' h4' ?_
    rw [h4']
    refine cnd_of (fun e => ?_) (fun e => ?_) <;> rw [e]
    · refine ⟨_, _, refIs4_ret i M, cnd_of (fun e => ⟨?_, rfl⟩) (fun e => ?_)⟩
      · rw [e, Bool.or_true]; rfl
      · rw [e]
        show cnd (leF (Int.ofNat 33) i) (Value.bool (leF i (Int.ofNat 35)) = .bool (betw 33 35 i || false) ∧ M = M) (Value.bool false = .bool (betw 33 35 i || false) ∧ M = M)
        rw [Bool.or_false]; exact two
    · exact ⟨rfl, rfl⟩

end Go.Proofs.YtabkcbaknjenmaaAM

/-
  THE NODE LAWS: the trees that are drawn: what is drawn, as plain functions.
-/
set_option linter.unusedVariables false
set_option linter.unusedSimpArgs false
namespace Go.Proofs.YtabkcbaknjenmaaAM
open Go Go.Proofs
set_option maxRecDepth 100000
set_option maxHeartbeats 4000000

/-- A node that is drawn; size: how many nodes it has; ht: it is not higher than that. -/
structure GN where
  kind : Nat
  name : ByteArray
  arg : ByteArray
  kids : List Nat
  size : Nat
  ht : Nat
structure GS where
  l : List UInt8
  at_ : Nat
  ns : List GN
  defs : List Nat
  names : List ByteArray
  bound : List ByteArray

def GS.next (s : GS) (n : Nat) : Nat × GS :=
  match s.l[s.at_]? with
  | some b => (b.toNat % n, { s with at_ := s.at_ + 1 })
  | none => (0, s)
def GS.add (s : GS) (e : GN) : GS := { s with ns := s.ns ++ [e] }
def GS.full (s : GS) (depth : Int) : Bool := decide (depth ≤ 0) || decide (150 < s.ns.length) || decide (s.l.length ≤ s.at_)
def GS.under (s : GS) (name : ByteArray) : GS := { s with bound := s.bound ++ [name] }
def GS.up (s : GS) : GS := { s with bound := s.bound.dropLast }

/-- The bytes of a text. -/
def tx (l : List UInt8) : ByteArray := ⟨l.toArray⟩
def digitsG : List ByteArray := [tx [48], tx [49], tx [45, 49], tx [50], tx [51], tx [55], tx [45, 51, 48, 48], tx [52, 50, 57, 52, 57, 54, 55, 50, 57, 54], tx [45, 49, 56, 52, 52, 54, 55, 52, 52, 48, 55, 51, 55, 48, 57, 53, 53, 49, 54, 49, 54], tx [49, 48]]
def textsG : List ByteArray := [tx [97], tx [98], tx [], tx [120, 32, 121], tx [10, 34, 92], tx [255], tx [107]]
def bindersG : List ByteArray := [tx [120], tx [121], tx [122], tx [100], tx [102], tx [113, 95, 49], tx [73, 110, 116]]
def GS.digits (s : GS) : ByteArray × GS := let (n, s) := s.next 10; (digitsG.getD n noText, s)
def GS.text (s : GS) : ByteArray × GS := let (n, s) := s.next 7; (textsG.getD n noText, s)
def GS.binder (s : GS) : ByteArray × GS := let (n, s) := s.next 6; (bindersG.getD n noText, s)

/-! ### Memory: who may turn what -/
/-- Of what was there, only what W has has turned. -/
def Mod (M M' : Mem) (W : List Nat) : Prop := M.length ≤ M'.length ∧ ∀ y, y < M.length → y ∉ W → M'[y]? = M[y]?
theorem Mod.refl (M : Mem) (W : List Nat) : Mod M M W := ⟨Nat.le_refl _, fun _ _ _ => rfl⟩
theorem Mod.app (M G : Mem) (W : List Nat) : Mod M (M ++ G) W := ⟨by simp, fun y hy _ => List.getElem?_append_left hy⟩
theorem Mod.trans {a b c : Mem} {W V : List Nat} (h : Mod a b W) (k : Mod b c V) (hv : ∀ y ∈ V, y ∈ W ∨ a.length ≤ y) : Mod a c W := by
  refine ⟨Nat.le_trans h.1 k.1, fun y hy hn => ?_⟩
  rw [k.2 y (Nat.lt_of_lt_of_le hy h.1) (fun hm => by rcases hv y hm with h' | h'; exact hn h'; omega), h.2 y hy hn]
theorem Mod.set (M : Mem) (x : Nat) (o : AObj) {W : List Nat} (hx : x ∈ W) : Mod M (M.set x o) W := ⟨by simp, fun y hy hn => List.getElem?_set_ne (fun e => hn (by rw [← e]; exact hx))⟩
theorem Mod.at_ {M M' : Mem} {W : List Nat} (h : Mod M M' W) {x : Nat} {vs : List Value} (hA : At M x vs) (hx : x ∉ W) : At M' x vs := by
  obtain ⟨u, m, hm, e⟩ := hA
  exact ⟨u, m, hm, by rw [h.2 x (List.getElem?_eq_some_iff.1 e).1 hx]; exact e⟩

/-- The block of a row. -/
def blk : Option Addr → List Nat
  | none => []
  | some a => [a.block]
theorem append_own2 {ty xty e : TypeId} {size bytes : Nat} (E : Elem ty xty e size bytes) {M M1 : Mem} {a : Option Addr} {n c m : Nat} {l new : List Value} {x : Value} (h : Own M M1 size a n c l) (hs : srcA Try.prog M1 size x = some (m, new)) (hn : new.length = m * size)
    (h1 : new.all Value.oneCell' = true) (hfit : (n + m) * bytes ≤ 140737488355328) (hfit2 : n + m ≤ 4611686018427387904) (hm0 : 0 < m) :
    ∃ c' M2, appendA Try.prog M1 ty xty (.slice a n c) x = some (.slice (some ⟨M1.length, 0, none⟩) (n + m) c', M2) ∧ Own M M2 size (some ⟨M1.length, 0, none⟩) (n + m) c' (l ++ new) ∧ Mod M1 M2 (blk a) ∧ M1.length < M2.length ∧ c' = capU := by
  obtain ⟨hk, hl, hcase⟩ := h
  obtain ⟨z, hz, hz2⟩ := E.ze
  obtain ⟨xk, hxk, hxk2⟩ : ∃ xk, kindT Try.prog xty = some xk ∧ (xk = .slice ∨ xk = .str) := by
    rcases E.xk with h | h
    · exact ⟨_, h, .inl rfl⟩
    · exact ⟨_, h, .inr rfl⟩
  have hcnd : ¬ ((xk ≠ .slice ∧ xk ≠ .str) ∨ size = 0 ∨ z.cells.size ≠ size) := by
    rintro (⟨h1, h2⟩ | h | h)
    · rcases hxk2 with h | h
      · exact h1 h
      · exact h2 h
    · have := E.pos; omega
    · exact h hz2
  have key : appendA Try.prog M1 ty xty (.slice a n c) x =
      (if m = 0 then (if c ≠ capU → n ≤ c then (match a with | none => some (.slice a n c, M1) | some ⟨_, _, none⟩ => some (.slice a n c, M1) | _ => none) else none)
      else if c ≠ capU ∧ n + m ≤ c then
        match a with
        | some ⟨b, o, none⟩ => (wrCells M1 b (o + n * size) new).map fun M' => (.slice a (n + m) c, M')
        | _ => none
      else if room47 (n + m) bytes = false ∨ n + m > 4611686018427387904 then none
      else if c ≠ capU then
        match a with
        | none => if n = 0 ∧ c = 0 then some (.slice (some ⟨M1.length, 0, none⟩) (n + m) capU, M1 ++ [.cells new size .live]) else none
        | some ⟨b, o, none⟩ => (rdCells M1 b o (n * size)).map fun old => (.slice (some ⟨M1.length, 0, none⟩) (n + m) capU, M1 ++ [.cells (old ++ new) size .live])
        | _ => none
      else
        match a with
        | some ⟨b, o, none⟩ =>
          match M1[b]? with
          | some (.cells vs u .live) => if u = size ∧ new.all Value.oneCell' = true then (rdCells M1 b o (n * size)).map fun old => (.slice (some ⟨M1.length, 0, none⟩) (n + m) capU, M1.set b (.cells vs u .dead) ++ [.cells (old ++ new) size .live]) else none
          | _ => none
        | _ => none) := by
    unfold appendA
    simp only [E.el, E.sz, E.by_, hz, hxk, hs, Option.bind_some]
    rw [if_neg hcnd]
    rfl
  rw [key]
  have hm : ¬ m = 0 := by omega
  · rw [if_neg hm]
    have hroom : ¬ (room47 (n + m) bytes = false ∨ n + m > 4611686018427387904) := by
      simp only [room47, decide_eq_false_iff_not]; omega
    rcases hcase with ⟨rfl, rfl, rfl⟩ | ⟨b, rfl, hb, hM, hc⟩
    · have hl0 : l = [] := List.eq_nil_of_length_eq_zero (by omega)
      subst hl0
      rw [if_neg (by omega), if_neg hroom, if_pos (by decide)]
      dsimp only
      rw [if_pos ⟨rfl, rfl⟩]
      refine ⟨_, _, rfl, ⟨hk.one _, by simpa using hn, .inr ⟨M1.length, rfl, hk.len, ?_, .inl rfl⟩⟩, .app _ _ _, by simp, rfl⟩
      rw [get_last]; rfl
    · have hcap : capU = 9223372036854775808 := rfl
      rw [if_neg (by rcases hc with h | h <;> omega), if_neg hroom]
      rcases hc with rfl | rfl
      · rw [if_neg (by simp)]
        dsimp only
        rw [hM]
        dsimp only
        rw [if_pos ⟨rfl, h1⟩, rdCells_at hM (by decide) (by omega)]
        simp only [Option.map_some, List.drop_zero]
        rw [List.take_of_length_le (by omega)]
        have hlen : (M1.set b (AObj.cells l size Mode.dead)).length = M1.length := List.length_set
        refine ⟨_, _, rfl, ⟨(hk.set hb _).one _, by rw [List.length_append, hl, hn, Nat.add_mul], .inr ⟨M1.length, rfl, hk.len, ?_, .inl rfl⟩⟩, (Mod.set M1 b _ (by simp [blk])).trans (.app _ _ []) (by simp), by simp, rfl⟩
        rw [← hlen, get_last]
      · rw [if_pos (by omega)]
        dsimp only
        rw [rdCells_at hM (by decide) (by omega)]
        simp only [Option.map_some, List.drop_zero]
        rw [List.take_of_length_le (by omega)]
        refine ⟨_, _, rfl, ⟨hk.one _, by rw [List.length_append, hl, hn, Nat.add_mul], .inr ⟨M1.length, rfl, hk.len, get_last _ _, .inl rfl⟩⟩, .app _ _ _, by simp, rfl⟩


end Go.Proofs.YtabkcbaknjenmaaAM

/-
  THE NODE LAWS: what is to be shown for functions, printed by a program: the trees that are drawn: small steps
-/
set_option linter.unusedVariables false
namespace Go.Proofs.YtabkcbaknjenmaaAM
open Go Go.Proofs
set_option maxRecDepth 100000
set_option maxHeartbeats 4000000
theorem w31 {p0 : Nat} {p1 : Int} {M : Mem} {K : Value → Mem → Prop} (h : ∃ (i0 : Int),
 rdVar Try.prog M 3 p0 1 = some (.int .i64 i0) ∧
 ∃ (a1 : Option Addr),
 ∃ (n2 : Nat),
 ∃ (n3 : Nat),
 rdVar Try.prog M 25 p0 0 = some (.slice a1 n2 n3) ∧
 True ∧
 cnd (leF (Int.ofNat n2) i0) (K (.int .i64 (Int.ofNat 0)) M)
 (∃ (i4 : Int),
 rdVar Try.prog M 3 p0 1 = some (.int .i64 i4) ∧
 ∃ (M5 : Mem),
 wrCells M p0 1 [.int .i64 (wrapF .i64 (Int.add i4 (Int.ofNat 1)))] = some M5 ∧
 ∃ (a6 : Option Addr),
 ∃ (n7 : Nat),
 ∃ (n8 : Nat),
 rdVar Try.prog M5 25 p0 0 = some (.slice a6 n7 n8) ∧
 ∃ (i9 : Int),
 rdVar Try.prog M5 3 p0 1 = some (.int .i64 i9) ∧
 ∃ (n10 : Nat),
 ∃ (n11 : Nat),
 idxA Try.prog 25 (.slice a6 n7 n8) (.int .i64 (wrapF .i64 (Int.sub i9 (Int.ofNat 1)))) =
 some (.pointer (some (.mk n10 n11 none))) ∧
 ∃ (i12 : Int),
 rdVar Try.prog M5 5 n10 n11 = some (.int .u8 i12) ∧
 ∃ (i13 : Int),
 binA Try.prog BinOp.rem 3 (Operand.tmp 33) (Operand.tmp 34) (.int .i64 (IntKind.wrap .i64 i12))
 (.int .i64 p1) =
 some (Value.int .i64 i13) ∧
 True ∧ K (.int .i64 i13) M5)) :
 Held (wpRet Try.prog 31 true [] [.pointer (some (.mk p0 0 none)), .int .i64 p1] M K) := held_of (by kernel_rfl) h
theorem w55 {p0 : Nat} {p1 : Int} {p2 p3 : ByteArray} {p4 : Option Addr} {p4n p4c : Nat} {M : Mem} {K : Value → Mem → Prop} (h : ∃ (a0 : Option Addr),
 ∃ (n1 : Nat),
 ∃ (n2 : Nat),
 rdVar Try.prog M 30 p0 2 = some (.slice a0 n1 n2) ∧
 ∃ (a3 : Option Addr),
 ∃ (n4 : Nat),
 ∃ (n5 : Nat),
 rdVar Try.prog M 30 p0 2 = some (.slice a3 n4 n5) ∧
 ∃ (a6 : Option Addr),
 ∃ (n7 : Nat),
 ∃ (n8 : Nat),
 ∃ (M9 : Mem),
 appendA Try.prog
 (M ++ [AObj.cells [.int .i64 p1, .string p2, .string p3, .slice p4 p4n p4c, .int .i64 (Int.ofNat n4)] 5 Mode.live]) 30 30
 (.slice a0 n1 n2) (.slice (some (.mk (List.length M) 0 none)) 1 1) =
 some (Value.slice a6 n7 n8, M9) ∧
 ∃ (M10 : Mem),
 wrCells M9 p0 2 [.slice a6 n7 n8] = some M10 ∧
 True ∧
 ∃ (a11 : Option Addr),
 ∃ (n12 : Nat),
 ∃ (n13 : Nat),
 rdVar Try.prog M10 30 p0 2 = some (.slice a11 n12 n13) ∧ K (.int .i64 (wrapF .i64 (Int.sub (Int.ofNat n12) (Int.ofNat 1)))) M10) :
 Held (wpRet Try.prog 55 true [] [.pointer (some (.mk p0 0 none)), .int .i64 p1, .string p2, .string p3, .slice p4 p4n p4c] M K) := held_of (by kernel_rfl) h
theorem w77 {p0 : Nat} {p1 : Int} {M : Mem} {K : Value → Mem → Prop} (h : cnd (leF p1 (Int.ofNat 0)) (True ∧ K (.bool true) M)
 (∃ (a0 : Option Addr),
 ∃ (n1 : Nat),
 ∃ (n2 : Nat),
 rdVar Try.prog M 30 p0 2 = some (.slice a0 n1 n2) ∧
 cnd (!leF (Int.ofNat n1) (Int.ofNat 150)) (True ∧ K (.bool true) M)
 (∃ (i3 : Int),
 rdVar Try.prog M 3 p0 1 = some (.int .i64 i3) ∧
 ∃ (a4 : Option Addr), ∃ (n5 : Nat), ∃ (n6 : Nat), rdVar Try.prog M 25 p0 0 = some (.slice a4 n5 n6) ∧ True ∧ K (.bool (leF (Int.ofNat n5) i3)) M))) :
 Held (wpRet Try.prog 77 true [] [.pointer (some (.mk p0 0 none)), .int .i64 p1] M K) := held_of (by kernel_rfl) h
theorem w52 {p0 : Nat} {p1 : ByteArray} {M : Mem} {K : Value → Mem → Prop} (h : ∃ (a0 : Option Addr),
 ∃ (n1 : Nat),
 ∃ (n2 : Nat),
 rdVar Try.prog M 53 p0 5 = some (.slice a0 n1 n2) ∧
 ∃ (a3 : Option Addr),
 ∃ (n4 : Nat),
 ∃ (n5 : Nat),
 ∃ (M6 : Mem),
 appendA Try.prog (M ++ [AObj.cells [.string p1] 1 Mode.live]) 53 53 (.slice a0 n1 n2) (.slice (some (.mk (List.length M) 0 none)) 1 1) =
 some (Value.slice a3 n4 n5, M6) ∧
 ∃ (M7 : Mem), wrCells M6 p0 5 [.slice a3 n4 n5] = some M7 ∧ K (undef) M7) :
 Held (wpRet Try.prog 52 true [] [.pointer (some (.mk p0 0 none)), .string p1] M K) := held_of (by kernel_rfl) h
theorem w54 {p0 : Nat} {M : Mem} {K : Value → Mem → Prop} (h : ∃ (a0 : Option Addr),
 ∃ (n1 : Nat),
 ∃ (n2 : Nat),
 rdVar Try.prog M 53 p0 5 = some (.slice a0 n1 n2) ∧
 ∃ (a3 : Option Addr),
 ∃ (n4 : Nat),
 ∃ (n5 : Nat),
 rdVar Try.prog M 53 p0 5 = some (.slice a3 n4 n5) ∧
 ∃ (a6 : Option Addr),
 ∃ (n7 : Nat),
 ∃ (n8 : Nat),
 sliceA Try.prog M 53 (.slice a0 n1 n2) none (some (Value.int .i64 (wrapF .i64 (Int.sub (Int.ofNat n4) (Int.ofNat 1))))) none =
 some (Value.slice a6 n7 n8) ∧
 ∃ (M9 : Mem), wrCells M p0 5 [.slice a6 n7 n8] = some M9 ∧ True ∧ K (undef) M9) :
 Held (wpRet Try.prog 54 true [] [.pointer (some (.mk p0 0 none))] M K) := held_of (by kernel_rfl) h
theorem w50 {p0 : Nat} {M : Mem} {K : Value → Mem → Prop} (h : ∃ (i0 : Int),
 ∃ (M1 : Mem),
 Ret Try.prog 31 [.pointer (some (.mk p0 0 none)), .int .i64 (Int.ofNat 6)]
 (M ++
 [AObj.cells
 [.string (ByteArray.mk #[120]), .string (ByteArray.mk #[121]), .string (ByteArray.mk #[122]), .string (ByteArray.mk #[100]),
 .string (ByteArray.mk #[102]), .string (ByteArray.mk #[113, 95, 49]), .string (ByteArray.mk #[73, 110, 116])]
 1 Mode.live])
 (.int .i64 i0) M1 ∧
 ∃ (n2 : Nat),
 ∃ (n3 : Nat),
 idxA Try.prog 53 (.slice (some (.mk (List.length M) 0 none)) 7 7) (.int .i64 i0) = some (.pointer (some (.mk n2 n3 none))) ∧
 ∃ (s4 : ByteArray), rdVar Try.prog M1 9 n2 n3 = some (.string s4) ∧ K (.string s4) M1) :
 Held (wpRet Try.prog 50 true [] [.pointer (some (.mk p0 0 none))] M K) := held_of (by kernel_rfl) h
theorem w99 {p0 : Nat} {M : Mem} {K : Value → Mem → Prop} (h : ∃ (i0 : Int),
 ∃ (M1 : Mem),
 Ret Try.prog 31 [.pointer (some (.mk p0 0 none)), .int .i64 (Int.ofNat 7)]
 (M ++
 [AObj.cells
 [.string (ByteArray.mk #[97]), .string (ByteArray.mk #[98]), .string (ByteArray.mk #[]), .string (ByteArray.mk #[120, 32, 121]),
 .string (ByteArray.mk #[10, 34, 92]), .string (ByteArray.mk #[255]), .string (ByteArray.mk #[107])]
 1 Mode.live])
 (.int .i64 i0) M1 ∧
 ∃ (n2 : Nat),
 ∃ (n3 : Nat),
 idxA Try.prog 53 (.slice (some (.mk (List.length M) 0 none)) 7 7) (.int .i64 i0) = some (.pointer (some (.mk n2 n3 none))) ∧
 ∃ (s4 : ByteArray), rdVar Try.prog M1 9 n2 n3 = some (.string s4) ∧ K (.string s4) M1) :
 Held (wpRet Try.prog 99 true [] [.pointer (some (.mk p0 0 none))] M K) := held_of (by kernel_rfl) h
theorem w100 {p0 : Nat} {M : Mem} {K : Value → Mem → Prop} (h : ∃ (i0 : Int),
 ∃ (M1 : Mem),
 Ret Try.prog 31 [.pointer (some (.mk p0 0 none)), .int .i64 (Int.ofNat 10)]
 (M ++
 [AObj.cells
 [.string (ByteArray.mk #[48]), .string (ByteArray.mk #[49]), .string (ByteArray.mk #[45, 49]), .string (ByteArray.mk #[50]),
 .string (ByteArray.mk #[51]), .string (ByteArray.mk #[55]), .string (ByteArray.mk #[45, 51, 48, 48]),
 .string (ByteArray.mk #[52, 50, 57, 52, 57, 54, 55, 50, 57, 54]),
 .string (ByteArray.mk #[45, 49, 56, 52, 52, 54, 55, 52, 52, 48, 55, 51, 55, 48, 57, 53, 53, 49, 54, 49, 54]), .string (ByteArray.mk #[49, 48])]
 1 Mode.live])
 (.int .i64 i0) M1 ∧
 ∃ (n2 : Nat),
 ∃ (n3 : Nat),
 idxA Try.prog 53 (.slice (some (.mk (List.length M) 0 none)) 10 10) (.int .i64 i0) = some (.pointer (some (.mk n2 n3 none))) ∧
 ∃ (s4 : ByteArray), rdVar Try.prog M1 9 n2 n3 = some (.string s4) ∧ K (.string s4) M1) :
 Held (wpRet Try.prog 100 true [] [.pointer (some (.mk p0 0 none))] M K) := held_of (by kernel_rfl) h
theorem w80 {p0 : Nat} {M : Mem} {K : Value → Mem → Prop} (h : ∃ (i0 : Int),
 ∃ (M1 : Mem),
 Ret Try.prog 31 [.pointer (some (.mk p0 0 none)), .int .i64 (Int.ofNat 6)] M (.int .i64 i0) M1 ∧
 cnd (eqF i0 (Int.ofNat 0))
 (∃ (i2 : Int),
 ∃ (M3 : Mem),
 Ret Try.prog 55
 [.pointer (some (.mk p0 0 none)), .int .i64 (Int.ofNat 2), .string (ByteArray.mk #[]), .string (ByteArray.mk #[]), .slice none 0 0] M1
 (.int .i64 i2) M3 ∧
 K (.int .i64 i2) M3)
 (cnd (eqF i0 (Int.ofNat 1))
 (∃ (i4 : Int),
 ∃ (M5 : Mem),
 Ret Try.prog 55
 [.pointer (some (.mk p0 0 none)), .int .i64 (Int.ofNat 3), .string (ByteArray.mk #[]), .string (ByteArray.mk #[]), .slice none 0 0] M1
 (.int .i64 i4) M5 ∧
 K (.int .i64 i4) M5)
 (cnd (eqF i0 (Int.ofNat 2))
 (∃ (i6 : Int),
 ∃ (M7 : Mem),
 Ret Try.prog 55
 [.pointer (some (.mk p0 0 none)), .int .i64 (Int.ofNat 4), .string (ByteArray.mk #[]), .string (ByteArray.mk #[]), .slice none 0 0] M1
 (.int .i64 i6) M7 ∧
 K (.int .i64 i6) M7)
 (cnd (eqF i0 (Int.ofNat 3))
 (∃ (s8 : ByteArray),
 ∃ (M9 : Mem),
 Ret Try.prog 99 [.pointer (some (.mk p0 0 none))] M1 (.string s8) M9 ∧
 ∃ (i10 : Int),
 ∃ (M11 : Mem),
 Ret Try.prog 55
 [.pointer (some (.mk p0 0 none)), .int .i64 (Int.ofNat 1), .string s8, .string (ByteArray.mk #[]), .slice none 0 0] M9
 (.int .i64 i10) M11 ∧
 K (.int .i64 i10) M11)
 (∃ (s12 : ByteArray),
 ∃ (M13 : Mem),
 Ret Try.prog 100 [.pointer (some (.mk p0 0 none))] M1 (.string s12) M13 ∧
 ∃ (i14 : Int),
 ∃ (M15 : Mem),
 Ret Try.prog 55
 [.pointer (some (.mk p0 0 none)), .int .i64 (Int.ofNat 0), .string s12, .string (ByteArray.mk #[]), .slice none 0 0] M13
 (.int .i64 i14) M15 ∧
 K (.int .i64 i14) M15))))) :
 Held (wpRet Try.prog 80 true [] [.pointer (some (.mk p0 0 none))] M K) := held_of (by kernel_rfl) h
theorem w81 {p0 : Nat} {p1 : Bool} {M : Mem} {K : Value → Mem → Prop} (h : ∃ (i0 : Int),
 ∃ (M1 : Mem),
 Ret Try.prog 31 [.pointer (some (.mk p0 0 none)), .int .i64 (Int.ofNat 40)] M (.int .i64 i0) M1 ∧
 cnd (eqF i0 (Int.ofNat 39)) (K (.string (ByteArray.mk #[110, 111, 98, 111, 100, 121])) M1)
 (cnd p1
 (∃ (i2 : Int),
 binA Try.prog BinOp.rem 3 (Operand.tmp 12) (Operand.const (.int .i64 (Int.ofNat 4))) (.int .i64 i0) (.int .i64 (Int.ofNat 4)) =
 some (Value.int .i64 i2) ∧
 cnd (eqF i2 (Int.ofNat 3))
 (∃ (a3 : Option Addr),
 ∃ (n4 : Nat),
 ∃ (n5 : Nat),
 rdVar Try.prog M1 53 p0 4 = some (.slice a3 n4 n5) ∧
 cnd (!leF (Int.ofNat n4) (Int.ofNat 0))
 (∃ (a6 : Option Addr),
 ∃ (n7 : Nat),
 ∃ (n8 : Nat),
 rdVar Try.prog M1 53 p0 4 = some (.slice a6 n7 n8) ∧
 ∃ (i9 : Int),
 binA Try.prog BinOp.quo 3 (Operand.tmp 28) (Operand.const (.int .i64 (Int.ofNat 4))) (.int .i64 i0)
 (.int .i64 (Int.ofNat 4)) =
 some (Value.int .i64 i9) ∧
 ∃ (a10 : Option Addr),
 ∃ (n11 : Nat),
 ∃ (n12 : Nat),
 rdVar Try.prog M1 53 p0 4 = some (.slice a10 n11 n12) ∧
 ∃ (i13 : Int),
 binA Try.prog BinOp.rem 3 (Operand.tmp 29) (Operand.tmp 34) (.int .i64 i9) (.int .i64 (Int.ofNat n11)) =
 some (Value.int .i64 i13) ∧
 ∃ (n14 : Nat),
 ∃ (n15 : Nat),
 idxA Try.prog 53 (.slice a6 n7 n8) (.int .i64 i13) = some (.pointer (some (.mk n14 n15 none))) ∧
 ∃ (s16 : ByteArray), rdVar Try.prog M1 9 n14 n15 = some (.string s16) ∧ True ∧ K (.string s16) M1)
 (∃ (a17 : Option Addr),
 ∃ (n18 : Nat),
 ∃ (n19 : Nat),
 rdVar Try.prog M1 53 p0 5 = some (.slice a17 n18 n19) ∧
 cnd (eqF (Int.ofNat n18) (Int.ofNat 0)) (K (.string (ByteArray.mk #[120])) M1)
 (∃ (a20 : Option Addr),
 ∃ (n21 : Nat),
 ∃ (n22 : Nat),
 rdVar Try.prog M1 53 p0 5 = some (.slice a20 n21 n22) ∧
 ∃ (a23 : Option Addr),
 ∃ (n24 : Nat),
 ∃ (n25 : Nat),
 rdVar Try.prog M1 53 p0 5 = some (.slice a23 n24 n25) ∧
 ∃ (a26 : Option Addr),
 ∃ (n27 : Nat),
 ∃ (n28 : Nat),
 rdVar Try.prog M1 53 p0 5 = some (.slice a26 n27 n28) ∧
 ∃ (i29 : Int),
 binA Try.prog BinOp.rem 3 (Operand.tmp 54) (Operand.tmp 59) (.int .i64 i0) (.int .i64 (Int.ofNat n27)) =
 some (Value.int .i64 i29) ∧
 ∃ (n30 : Nat),
 ∃ (n31 : Nat),
 idxA Try.prog 53 (.slice a20 n21 n22)
 (.int .i64
 (wrapF .i64 (Int.sub (wrapF .i64 (Int.sub (Int.ofNat n24) (Int.ofNat 1))) i29))) =
 some (.pointer (some (.mk n30 n31 none))) ∧
 ∃ (s32 : ByteArray), rdVar Try.prog M1 9 n30 n31 = some (.string s32) ∧ True ∧ K (.string s32) M1)))
 (∃ (a33 : Option Addr),
 ∃ (n34 : Nat),
 ∃ (n35 : Nat),
 rdVar Try.prog M1 53 p0 5 = some (.slice a33 n34 n35) ∧
 cnd (eqF (Int.ofNat n34) (Int.ofNat 0)) (K (.string (ByteArray.mk #[120])) M1)
 (∃ (a36 : Option Addr),
 ∃ (n37 : Nat),
 ∃ (n38 : Nat),
 rdVar Try.prog M1 53 p0 5 = some (.slice a36 n37 n38) ∧
 ∃ (a39 : Option Addr),
 ∃ (n40 : Nat),
 ∃ (n41 : Nat),
 rdVar Try.prog M1 53 p0 5 = some (.slice a39 n40 n41) ∧
 ∃ (a42 : Option Addr),
 ∃ (n43 : Nat),
 ∃ (n44 : Nat),
 rdVar Try.prog M1 53 p0 5 = some (.slice a42 n43 n44) ∧
 ∃ (i45 : Int),
 binA Try.prog BinOp.rem 3 (Operand.tmp 54) (Operand.tmp 59) (.int .i64 i0) (.int .i64 (Int.ofNat n43)) =
 some (Value.int .i64 i45) ∧
 ∃ (n46 : Nat),
 ∃ (n47 : Nat),
 idxA Try.prog 53 (.slice a36 n37 n38)
 (.int .i64 (wrapF .i64 (Int.sub (wrapF .i64 (Int.sub (Int.ofNat n40) (Int.ofNat 1))) i45))) =
 some (.pointer (some (.mk n46 n47 none))) ∧
 ∃ (s48 : ByteArray), rdVar Try.prog M1 9 n46 n47 = some (.string s48) ∧ True ∧ K (.string s48) M1)))
 (∃ (a49 : Option Addr),
 ∃ (n50 : Nat),
 ∃ (n51 : Nat),
 rdVar Try.prog M1 53 p0 5 = some (.slice a49 n50 n51) ∧
 cnd (eqF (Int.ofNat n50) (Int.ofNat 0)) (K (.string (ByteArray.mk #[120])) M1)
 (∃ (a52 : Option Addr),
 ∃ (n53 : Nat),
 ∃ (n54 : Nat),
 rdVar Try.prog M1 53 p0 5 = some (.slice a52 n53 n54) ∧
 ∃ (a55 : Option Addr),
 ∃ (n56 : Nat),
 ∃ (n57 : Nat),
 rdVar Try.prog M1 53 p0 5 = some (.slice a55 n56 n57) ∧
 ∃ (a58 : Option Addr),
 ∃ (n59 : Nat),
 ∃ (n60 : Nat),
 rdVar Try.prog M1 53 p0 5 = some (.slice a58 n59 n60) ∧
 ∃ (i61 : Int),
 binA Try.prog BinOp.rem 3 (Operand.tmp 54) (Operand.tmp 59) (.int .i64 i0) (.int .i64 (Int.ofNat n59)) =
 some (Value.int .i64 i61) ∧
 ∃ (n62 : Nat),
 ∃ (n63 : Nat),
 idxA Try.prog 53 (.slice a52 n53 n54)
 (.int .i64 (wrapF .i64 (Int.sub (wrapF .i64 (Int.sub (Int.ofNat n56) (Int.ofNat 1))) i61))) =
 some (.pointer (some (.mk n62 n63 none))) ∧
 ∃ (s64 : ByteArray), rdVar Try.prog M1 9 n62 n63 = some (.string s64) ∧ True ∧ K (.string s64) M1)))) :
 Held (wpRet Try.prog 81 true [] [.pointer (some (.mk p0 0 none)), .bool p1] M K) := held_of (by kernel_rfl) h
theorem w32 {p0 : Nat} {p1 : Int} {p2 : ByteArray} {p3 : Int} {M : Mem} {K : Value → Mem → Prop} (h : ∃ (s0 : ByteArray),
 ∃ (M1 : Mem),
 Ret Try.prog 50 [.pointer (some (.mk p0 0 none))] M (.string s0) M1 ∧
 ∃ (i2 : Int),
 ∃ (M3 : Mem),
 Ret Try.prog 51 [.pointer (some (.mk p0 0 none)), .int .i64 (wrapF .i64 (Int.sub p3 (Int.ofNat 1)))] M1 (.int .i64 i2) M3 ∧
 ∃ (M4 : Mem),
 Ret Try.prog 52 [.pointer (some (.mk p0 0 none)), .string s0] M3 (undef) M4 ∧
 ∃ (i5 : Int),
 ∃ (M6 : Mem),
 Ret Try.prog 51 [.pointer (some (.mk p0 0 none)), .int .i64 (wrapF .i64 (Int.sub p3 (Int.ofNat 1)))] M4 (.int .i64 i5) M6 ∧
 ∃ (i7 : Int),
 ∃ (M8 : Mem),
 Ret Try.prog 53 [.pointer (some (.mk p0 0 none)), .int .i64 (wrapF .i64 (Int.sub p3 (Int.ofNat 1)))] M6 (.int .i64 i7) M8 ∧
 ∃ (M9 : Mem),
 Ret Try.prog 54 [.pointer (some (.mk p0 0 none))] M8 (undef) M9 ∧
 ∃ (i10 : Int),
 ∃ (M11 : Mem),
 Ret Try.prog 55
 [.pointer (some (.mk p0 0 none)), .int .i64 p1, .string p2, .string s0,
 .slice (some (.mk (List.length M9) 0 none)) 3 3]
 (M9 ++ [AObj.cells [.int .i64 i2, .int .i64 i5, .int .i64 i7] 1 Mode.live]) (.int .i64 i10) M11 ∧
 K (.int .i64 i10) M11) :
 Held (wpRet Try.prog 32 true [] [.pointer (some (.mk p0 0 none)), .int .i64 p1, .string p2, .int .i64 p3] M K) := held_of (by kernel_rfl) h
theorem w79 {p0 : Nat} {p1 : Int} {M : Mem} {K : Value → Mem → Prop} (h : ∃ (s0 : ByteArray),
 ∃ (M1 : Mem),
 Ret Try.prog 50 [.pointer (some (.mk p0 0 none))] M (.string s0) M1 ∧
 ∃ (i2 : Int),
 ∃ (M3 : Mem),
 Ret Try.prog 51 [.pointer (some (.mk p0 0 none)), .int .i64 (wrapF .i64 (Int.sub p1 (Int.ofNat 1)))] M1 (.int .i64 i2) M3 ∧
 ∃ (M4 : Mem),
 Ret Try.prog 52 [.pointer (some (.mk p0 0 none)), .string s0] M3 (undef) M4 ∧
 ∃ (i5 : Int),
 ∃ (M6 : Mem),
 Ret Try.prog 51 [.pointer (some (.mk p0 0 none)), .int .i64 (wrapF .i64 (Int.sub p1 (Int.ofNat 1)))] M4 (.int .i64 i5) M6 ∧
 ∃ (M7 : Mem),
 Ret Try.prog 54 [.pointer (some (.mk p0 0 none))] M6 (undef) M7 ∧
 ∃ (i8 : Int),
 ∃ (M9 : Mem),
 Ret Try.prog 55
 [.pointer (some (.mk p0 0 none)), .int .i64 (Int.ofNat 16), .string (ByteArray.mk #[]), .string s0,
 .slice (some (.mk (List.length M7) 0 none)) 2 2]
 (M7 ++ [AObj.cells [.int .i64 i2, .int .i64 i5] 1 Mode.live]) (.int .i64 i8) M9 ∧
 K (.int .i64 i8) M9) :
 Held (wpRet Try.prog 79 true [] [.pointer (some (.mk p0 0 none)), .int .i64 p1] M K) := held_of (by kernel_rfl) h
theorem w97 {p0 : Nat} {p1 : Int} {M : Mem} {K : Value → Mem → Prop} (h : ∃ (i0 : Int),
 ∃ (M1 : Mem),
 Ret Try.prog 31 [.pointer (some (.mk p0 0 none)), .int .i64 (Int.ofNat 12)] M (.int .i64 i0) M1 ∧
 ∃ (b2 : Bool),
 ∃ (M3 : Mem),
 Ret Try.prog 77 [.pointer (some (.mk p0 0 none)), .int .i64 p1] M1 (.bool b2) M3 ∧
 cnd b2
 (∃ (i4 : Int),
 binA Try.prog BinOp.rem 3 (Operand.tmp 17) (Operand.const (.int .i64 (Int.ofNat 4))) (.int .i64 i0) (.int .i64 (Int.ofNat 4)) =
 some (Value.int .i64 i4) ∧
 cnd (eqF i4 (Int.ofNat 0))
 (∃ (i5 : Int), ∃ (M6 : Mem), Ret Try.prog 80 [.pointer (some (.mk p0 0 none))] M3 (.int .i64 i5) M6 ∧ K (.int .i64 i5) M6)
 (∃ (s7 : ByteArray),
 ∃ (M8 : Mem),
 Ret Try.prog 81 [.pointer (some (.mk p0 0 none)), .bool false] M3 (.string s7) M8 ∧
 ∃ (i9 : Int),
 ∃ (M10 : Mem),
 Ret Try.prog 55
 [.pointer (some (.mk p0 0 none)), .int .i64 (Int.ofNat 5), .string s7, .string (ByteArray.mk #[]), .slice none 0 0] M8
 (.int .i64 i9) M10 ∧
 K (.int .i64 i9) M10))
 (cnd (!leF (Int.ofNat 6) i0)
 (∃ (i11 : Int),
 binA Try.prog BinOp.rem 3 (Operand.tmp 17) (Operand.const (.int .i64 (Int.ofNat 4))) (.int .i64 i0) (.int .i64 (Int.ofNat 4)) =
 some (Value.int .i64 i11) ∧
 cnd (eqF i11 (Int.ofNat 0))
 (∃ (i12 : Int), ∃ (M13 : Mem), Ret Try.prog 80 [.pointer (some (.mk p0 0 none))] M3 (.int .i64 i12) M13 ∧ K (.int .i64 i12) M13)
 (∃ (s14 : ByteArray),
 ∃ (M15 : Mem),
 Ret Try.prog 81 [.pointer (some (.mk p0 0 none)), .bool false] M3 (.string s14) M15 ∧
 ∃ (i16 : Int),
 ∃ (M17 : Mem),
 Ret Try.prog 55
 [.pointer (some (.mk p0 0 none)), .int .i64 (Int.ofNat 5), .string s14, .string (ByteArray.mk #[]), .slice none 0 0]
 M15 (.int .i64 i16) M17 ∧
 K (.int .i64 i16) M17))
 (∃ (i18 : Int),
 ∃ (M19 : Mem),
 Ret Try.prog 97 [.pointer (some (.mk p0 0 none)), .int .i64 (wrapF .i64 (Int.sub p1 (Int.ofNat 1)))] M3 (.int .i64 i18) M19 ∧
 ∃ (i20 : Int),
 ∃ (M21 : Mem),
 Ret Try.prog 97 [.pointer (some (.mk p0 0 none)), .int .i64 (wrapF .i64 (Int.sub p1 (Int.ofNat 1)))] M19 (.int .i64 i20)
 M21 ∧
 cnd (!leF (Int.ofNat 9) i0)
 (∃ (i22 : Int),
 ∃ (M23 : Mem),
 Ret Try.prog 55
 [.pointer (some (.mk p0 0 none)), .int .i64 (Int.ofNat 31), .string (ByteArray.mk #[]), .string (ByteArray.mk #[]),
 .slice (some (.mk (List.length M21) 0 none)) 2 2]
 (M21 ++ [AObj.cells [.int .i64 i18, .int .i64 i20] 1 Mode.live]) (.int .i64 i22) M23 ∧
 K (.int .i64 i22) M23)
 (∃ (i24 : Int),
 ∃ (M25 : Mem),
 Ret Try.prog 97 [.pointer (some (.mk p0 0 none)), .int .i64 (wrapF .i64 (Int.sub p1 (Int.ofNat 1)))] M21
 (.int .i64 i24) M25 ∧
 ∃ (i26 : Int),
 ∃ (M27 : Mem),
 Ret Try.prog 55
 [.pointer (some (.mk p0 0 none)), .int .i64 (Int.ofNat 32), .string (ByteArray.mk #[]), .string (ByteArray.mk #[]),
 .slice (some (.mk (List.length M25) 0 none)) 3 3]
 (M25 ++ [AObj.cells [.int .i64 i18, .int .i64 i20, .int .i64 i24] 1 Mode.live]) (.int .i64 i26)
 M27 ∧
 K (.int .i64 i26) M27)))) :
 Held (wpRet Try.prog 97 true [] [.pointer (some (.mk p0 0 none)), .int .i64 p1] M K) := held_of (by kernel_rfl) h
theorem w98 {p0 : Nat} {p1 : Int} {M : Mem} {K : Value → Mem → Prop} (h : ∃ (i0 : Int),
 ∃ (M1 : Mem),
 Ret Try.prog 31 [.pointer (some (.mk p0 0 none)), .int .i64 (Int.ofNat 10)] M (.int .i64 i0) M1 ∧
 ∃ (b2 : Bool),
 ∃ (M3 : Mem),
 Ret Try.prog 77 [.pointer (some (.mk p0 0 none)), .int .i64 p1] M1 (.bool b2) M3 ∧
 cnd b2
 (∃ (i4 : Int),
 ∃ (M5 : Mem), Ret Try.prog 97 [.pointer (some (.mk p0 0 none)), .int .i64 p1] M3 (.int .i64 i4) M5 ∧ K (.int .i64 i4) M5)
 (cnd (!leF (Int.ofNat 5) i0)
 (∃ (i6 : Int),
 ∃ (M7 : Mem), Ret Try.prog 97 [.pointer (some (.mk p0 0 none)), .int .i64 p1] M3 (.int .i64 i6) M7 ∧ K (.int .i64 i6) M7)
 (cnd (!leF (Int.ofNat 7) i0)
 (∃ (s8 : ByteArray),
 ∃ (M9 : Mem),
 Ret Try.prog 100 [.pointer (some (.mk p0 0 none))] M3 (.string s8) M9 ∧
 ∃ (i10 : Int),
 ∃ (M11 : Mem),
 Ret Try.prog 98 [.pointer (some (.mk p0 0 none)), .int .i64 (wrapF .i64 (Int.sub p1 (Int.ofNat 1)))] M9 (.int .i64 i10)
 M11 ∧
 ∃ (i12 : Int),
 ∃ (M13 : Mem),
 Ret Try.prog 55
 [.pointer (some (.mk p0 0 none)), .int .i64 (Int.ofNat 35), .string s8, .string (ByteArray.mk #[]),
 .slice (some (.mk (List.length M11) 0 none)) 1 1]
 (M11 ++ [AObj.cells [.int .i64 i10] 1 Mode.live]) (.int .i64 i12) M13 ∧
 K (.int .i64 i12) M13)
 (∃ (i14 : Int),
 ∃ (M15 : Mem),
 Ret Try.prog 98 [.pointer (some (.mk p0 0 none)), .int .i64 (wrapF .i64 (Int.sub p1 (Int.ofNat 1)))] M3 (.int .i64 i14) M15 ∧
 ∃ (n16 : Nat),
 ∃ (n17 : Nat),
 idxA Try.prog 22 (.slice (some (.mk (List.length M15) 0 none)) 3 3) (.int .i64 (wrapF .i64 (Int.sub i0 (Int.ofNat 7)))) =
 some (.pointer (some (.mk n16 n17 none))) ∧
 ∃ (i18 : Int),
 rdVar Try.prog
 (M15 ++ [AObj.cells [.int .i64 (Int.ofNat 33), .int .i64 (Int.ofNat 33), .int .i64 (Int.ofNat 34)] 1 Mode.live]) 3
 n16 n17 =
 some (Value.int .i64 i18) ∧
 ∃ (i19 : Int),
 ∃ (M20 : Mem),
 Ret Try.prog 98 [.pointer (some (.mk p0 0 none)), .int .i64 (wrapF .i64 (Int.sub p1 (Int.ofNat 1)))]
 (M15 ++ [AObj.cells [.int .i64 (Int.ofNat 33), .int .i64 (Int.ofNat 33), .int .i64 (Int.ofNat 34)] 1 Mode.live])
 (.int .i64 i19) M20 ∧
 ∃ (i21 : Int),
 ∃ (M22 : Mem),
 Ret Try.prog 55
 [.pointer (some (.mk p0 0 none)), .int .i64 i18, .string (ByteArray.mk #[]), .string (ByteArray.mk #[]),
 .slice (some (.mk (List.length M20) 0 none)) 2 2]
 (M20 ++ [AObj.cells [.int .i64 i14, .int .i64 i19] 1 Mode.live]) (.int .i64 i21) M22 ∧
 (((List.length M15 <
 List.length
 (M15 ++
 [AObj.cells [.int .i64 (Int.ofNat 33), .int .i64 (Int.ofNat 33), .int .i64 (Int.ofNat 34)] 1
 Mode.live]) →
 M20[List.length M15]? =
 (M15 ++
 [AObj.cells [.int .i64 (Int.ofNat 33), .int .i64 (Int.ofNat 33), .int .i64 (Int.ofNat 34)] 1
 Mode.live])[List.length M15]?) ∧
 True) ∧
 ((n16 <
 List.length
 (M15 ++
 [AObj.cells [.int .i64 (Int.ofNat 33), .int .i64 (Int.ofNat 33), .int .i64 (Int.ofNat 34)] 1
 Mode.live]) →
 M20[n16]? =
 (M15 ++
 [AObj.cells [.int .i64 (Int.ofNat 33), .int .i64 (Int.ofNat 33), .int .i64 (Int.ofNat 34)] 1
 Mode.live])[n16]?) ∧
 True) ∧
 True) ∧
 K (.int .i64 i21) M22)))) :
 Held (wpRet Try.prog 98 true [] [.pointer (some (.mk p0 0 none)), .int .i64 p1] M K) := held_of (by kernel_rfl) h

end Go.Proofs.YtabkcbaknjenmaaAM

/-
  THE NODE LAWS: the trees that are drawn: how they lie in memory.
-/
set_option linter.unusedVariables false
set_option linter.unusedSimpArgs false
namespace Go.Proofs.YtabkcbaknjenmaaAM
open Go Go.Proofs
set_option maxRecDepth 100000
set_option maxHeartbeats 4000000

/-- A row that is one's own, with something behind it maybe. -/
def OwnJ (M M1 : Mem) (sz : Nat) (a : Option Addr) (n c : Nat) (l : List Value) : Prop :=
  Keep M M1 ∧ l.length = n * sz ∧ ((a = none ∧ n = 0 ∧ c = 0) ∨ ∃ b jk, a = some ⟨b, 0, none⟩ ∧ M.length ≤ b ∧ M1[b]? = some (.cells (l ++ jk) sz .live) ∧ (c = capU ∨ (c = n ∧ jk = [])))
theorem Own.junk {M M1 : Mem} {sz n c : Nat} {a : Option Addr} {l : List Value} (h : Own M M1 sz a n c l) : OwnJ M M1 sz a n c l := by
  obtain ⟨h1, h2, h3⟩ := h
  refine ⟨h1, h2, ?_⟩
  rcases h3 with h3 | ⟨b, h3, h4, h5, h6⟩
  · exact .inl h3
  · refine .inr ⟨b, [], h3, h4, by rw [List.append_nil]; exact h5, ?_⟩
    rcases h6 with h6 | h6
    · exact .inl h6
    · exact .inr ⟨h6, rfl⟩
theorem append_ownJ {ty xty e : TypeId} {size bytes : Nat} (E : Elem ty xty e size bytes) {M M1 : Mem} {a : Option Addr} {n c m : Nat} {l new : List Value} {x : Value} (h : OwnJ M M1 size a n c l) (hs : srcA Try.prog M1 size x = some (m, new)) (hn : new.length = m * size)
    (h1 : new.all Value.oneCell' = true) (hfit : (n + m) * bytes ≤ 140737488355328) (hfit2 : n + m ≤ 4611686018427387904) (hm0 : 0 < m) :
    ∃ c' M2, appendA Try.prog M1 ty xty (.slice a n c) x = some (.slice (some ⟨M1.length, 0, none⟩) (n + m) c', M2) ∧ Own M M2 size (some ⟨M1.length, 0, none⟩) (n + m) c' (l ++ new) ∧ Mod M1 M2 (blk a) ∧ M1.length < M2.length ∧ c' = capU := by
  obtain ⟨hk, hl, hcase⟩ := h
  obtain ⟨z, hz, hz2⟩ := E.ze
  obtain ⟨xk, hxk, hxk2⟩ : ∃ xk, kindT Try.prog xty = some xk ∧ (xk = .slice ∨ xk = .str) := by
    rcases E.xk with h | h
    · exact ⟨_, h, .inl rfl⟩
    · exact ⟨_, h, .inr rfl⟩
  have hcnd : ¬ ((xk ≠ .slice ∧ xk ≠ .str) ∨ size = 0 ∨ z.cells.size ≠ size) := by
    rintro (⟨h1, h2⟩ | h | h)
    · rcases hxk2 with h | h
      · exact h1 h
      · exact h2 h
    · have := E.pos; omega
    · exact h hz2
  have key : appendA Try.prog M1 ty xty (.slice a n c) x =
      (if m = 0 then (if c ≠ capU → n ≤ c then (match a with | none => some (.slice a n c, M1) | some ⟨_, _, none⟩ => some (.slice a n c, M1) | _ => none) else none)
      else if c ≠ capU ∧ n + m ≤ c then
        match a with
        | some ⟨b, o, none⟩ => (wrCells M1 b (o + n * size) new).map fun M' => (.slice a (n + m) c, M')
        | _ => none
      else if room47 (n + m) bytes = false ∨ n + m > 4611686018427387904 then none
      else if c ≠ capU then
        match a with
        | none => if n = 0 ∧ c = 0 then some (.slice (some ⟨M1.length, 0, none⟩) (n + m) capU, M1 ++ [.cells new size .live]) else none
        | some ⟨b, o, none⟩ => (rdCells M1 b o (n * size)).map fun old => (.slice (some ⟨M1.length, 0, none⟩) (n + m) capU, M1 ++ [.cells (old ++ new) size .live])
        | _ => none
      else
        match a with
        | some ⟨b, o, none⟩ =>
          match M1[b]? with
          | some (.cells vs u .live) => if u = size ∧ new.all Value.oneCell' = true then (rdCells M1 b o (n * size)).map fun old => (.slice (some ⟨M1.length, 0, none⟩) (n + m) capU, M1.set b (.cells vs u .dead) ++ [.cells (old ++ new) size .live]) else none
          | _ => none
        | _ => none) := by
    unfold appendA
    simp only [E.el, E.sz, E.by_, hz, hxk, hs, Option.bind_some]
    rw [if_neg hcnd]
    rfl
  rw [key]
  have hm : ¬ m = 0 := by omega
  · rw [if_neg hm]
    have hroom : ¬ (room47 (n + m) bytes = false ∨ n + m > 4611686018427387904) := by
      simp only [room47, decide_eq_false_iff_not]; omega
    rcases hcase with ⟨rfl, rfl, rfl⟩ | ⟨b, jk, rfl, hb, hM, hc⟩
    · have hl0 : l = [] := List.eq_nil_of_length_eq_zero (by omega)
      subst hl0
      rw [if_neg (by omega), if_neg hroom, if_pos (by decide)]
      dsimp only
      rw [if_pos ⟨rfl, rfl⟩]
      refine ⟨_, _, rfl, ⟨hk.one _, by simpa using hn, .inr ⟨M1.length, rfl, hk.len, ?_, .inl rfl⟩⟩, .app _ _ _, by simp, rfl⟩
      rw [get_last]; rfl
    · have hcap : capU = 9223372036854775808 := rfl
      rw [if_neg (by rcases hc with h | ⟨h, _⟩ <;> omega), if_neg hroom]
      rcases hc with rfl | ⟨rfl, rfl⟩
      · rw [if_neg (by simp)]
        dsimp only
        rw [hM]
        dsimp only
        rw [if_pos ⟨rfl, h1⟩, rdCells_at hM (by decide) (by rw [List.length_append]; omega)]
        simp only [Option.map_some, List.drop_zero]
        rw [List.take_left' (by omega)]
        have hlen : (M1.set b (AObj.cells (l ++ jk) size Mode.dead)).length = M1.length := List.length_set
        refine ⟨_, _, rfl, ⟨(hk.set hb _).one _, by rw [List.length_append, hl, hn, Nat.add_mul], .inr ⟨M1.length, rfl, hk.len, ?_, .inl rfl⟩⟩, (Mod.set M1 b _ (by simp [blk])).trans (.app _ _ []) (by simp), by simp, rfl⟩
        rw [← hlen, get_last]
      · rw [if_pos (by omega)]
        dsimp only
        rw [rdCells_at hM (by decide) (by rw [List.length_append]; omega)]
        simp only [Option.map_some, List.drop_zero]
        rw [List.take_left' (by omega)]
        refine ⟨_, _, rfl, ⟨hk.one _, by rw [List.length_append, hl, hn, Nat.add_mul], .inr ⟨M1.length, rfl, hk.len, get_last _ _, .inl rfl⟩⟩, .app _ _ _, by simp, rfl⟩



theorem Row.mod {M M' : Mem} {W : List Nat} {a : Option Addr} {l : List Value} (h : Row M a l) (hm : Mod M M' W) (ha : ∀ y ∈ blk a, y ∉ W) : Row M' a l := by
  rcases h with h | ⟨x, o, rfl, h2⟩
  · exact .inl h
  · refine .inr ⟨x, o, rfl, fun k hk => ?_⟩
    have h3 := h2 k hk
    unfold cellAt at h3 ⊢
    split at h3
    · rename_i vs u m hM
      rw [hm.2 x (List.getElem?_eq_some_iff.1 hM).1 (ha x (by simp [blk])), hM]
      exact h3
    · simp at h3
theorem Own.mod {M M1 M2 : Mem} {W : List Nat} {sz n c : Nat} {a : Option Addr} {l : List Value} (h : Own M M1 sz a n c l) (hk : Keep M M2) (hm : Mod M1 M2 W) (ha : ∀ y ∈ blk a, y ∉ W) : Own M M2 sz a n c l := by
  obtain ⟨h1, h2, h3⟩ := h
  refine ⟨hk, h2, ?_⟩
  rcases h3 with h3 | ⟨b, rfl, h4, h5, h6⟩
  · exact .inl h3
  · exact .inr ⟨b, rfl, h4, by rw [hm.2 b (List.getElem?_eq_some_iff.1 h5).1 (ha b (by simp [blk]))]; exact h5, h6⟩
theorem OwnJ.mod {M M1 M2 : Mem} {W : List Nat} {sz n c : Nat} {a : Option Addr} {l : List Value} (h : OwnJ M M1 sz a n c l) (hk : Keep M M2) (hm : Mod M1 M2 W) (ha : ∀ y ∈ blk a, y ∉ W) : OwnJ M M2 sz a n c l := by
  obtain ⟨h1, h2, h3⟩ := h
  refine ⟨hk, h2, ?_⟩
  rcases h3 with h3 | ⟨b, jk, rfl, h4, h5, h6⟩
  · exact .inl h3
  · exact .inr ⟨b, jk, rfl, h4, by rw [hm.2 b (List.getElem?_eq_some_iff.1 h5).1 (ha b (by simp [blk]))]; exact h5, h6⟩

/-- What a slice shows: values one behind the other. -/
def SliceR (M : Mem) (sz : Nat) (a : Option Addr) (n c : Nat) (l : List Value) : Prop :=
  l.length = n * sz ∧ ((a = none ∧ n = 0 ∧ c = 0) ∨ ∃ x o vs u m, a = some ⟨x, o, none⟩ ∧ M[x]? = some (.cells vs u m) ∧ m ≠ .dead ∧ (vs.drop o).take (n * sz) = l ∧ o + n * sz ≤ vs.length)
theorem SliceR.mod {M M' : Mem} {W : List Nat} {sz n c : Nat} {a : Option Addr} {l : List Value} (h : SliceR M sz a n c l) (hm : Mod M M' W) (ha : ∀ y ∈ blk a, y ∉ W) : SliceR M' sz a n c l := by
  obtain ⟨h1, h2⟩ := h
  refine ⟨h1, ?_⟩
  rcases h2 with h2 | ⟨x, o, vs, u, m, rfl, h3, h4⟩
  · exact .inl h2
  · exact .inr ⟨x, o, vs, u, m, rfl, by rw [hm.2 x (List.getElem?_eq_some_iff.1 h3).1 (ha x (by simp [blk]))]; exact h3, h4⟩
theorem SliceR.row {M : Mem} {sz n c : Nat} {a : Option Addr} {l : List Value} (h : SliceR M sz a n c l) : Row M a l := by
  obtain ⟨h1, h2⟩ := h
  rcases h2 with ⟨_, rfl, _⟩ | ⟨x, o, vs, u, m, rfl, h3, h4, h5, h6⟩
  · exact .inl (List.eq_nil_of_length_eq_zero (by omega))
  · refine .inr ⟨x, o, rfl, fun k hk => ?_⟩
    unfold cellAt
    rw [h3]; dsimp only
    rw [if_neg h4]
    subst h5
    simp only [List.length_take, List.length_drop] at hk
    rw [List.getElem_take, List.getElem_drop, List.getElem?_eq_getElem]
theorem SliceR.keep {M M' : Mem} {sz n c : Nat} {a : Option Addr} {l : List Value} (h : SliceR M sz a n c l) (k : Keep M M') : SliceR M' sz a n c l := by
  obtain ⟨h1, h2⟩ := h
  refine ⟨h1, ?_⟩
  rcases h2 with h2 | ⟨x, o, vs, u, m, rfl, h3, h4⟩
  · exact .inl h2
  · exact .inr ⟨x, o, vs, u, m, rfl, k.get h3, h4⟩
theorem SliceR.nil (M : Mem) (sz : Nat) : SliceR M sz none 0 0 [] := ⟨by simp, .inl ⟨rfl, rfl, rfl⟩⟩
theorem SliceR.at_ {M : Mem} {x n c sz u : Nat} {m : Mode} {l : List Value} (h : M[x]? = some (.cells l u m)) (hm : m ≠ .dead) (hl : l.length = n * sz) : SliceR M sz (some ⟨x, 0, none⟩) n c l :=
  ⟨hl, .inr ⟨x, 0, l, u, m, rfl, h, hm, by rw [List.drop_zero, ← hl, List.take_length], by omega⟩⟩
theorem Own.slice {M M1 : Mem} {sz n c : Nat} {a : Option Addr} {l : List Value} (h : Own M M1 sz a n c l) : SliceR M1 sz a n c l := by
  obtain ⟨h1, h2, h3⟩ := h
  rcases h3 with h3 | ⟨b, rfl, h4, h5, h6⟩
  · exact ⟨h2, .inl h3⟩
  · exact .at_ h5 (by decide) h2
theorem SliceR.src {M : Mem} {sz n c : Nat} {a : Option Addr} {l : List Value} (h : SliceR M sz a n c l) : srcA Try.prog M sz (.slice a n c) = some (n, l) := by
  obtain ⟨h1, h2⟩ := h
  rcases h2 with ⟨rfl, rfl, rfl⟩ | ⟨x, o, vs, u, m, rfl, h3, h4, h5, h6⟩
  · have : l = [] := List.eq_nil_of_length_eq_zero (by omega)
    subst this; rfl
  · simp only [srcA]
    rw [rdCells_at h3 h4 h6]
    simp [h5]

/-- Nodes, side by side: their kids lie elsewhere. -/
def NodesRep (M : Mem) (W : List Nat) : Nat → List GN → List Value → Prop
  | _, [], cs => cs = []
  | i, g :: l, cs => ∃ ka kc rest, cs = nodeV (Int.ofNat g.kind) g.name g.arg ka g.kids.length kc (Int.ofNat i) ++ rest ∧ SliceR M 1 ka g.kids.length kc (ints (g.kids.map Int.ofNat)) ∧ (∀ y ∈ blk ka, y ∉ W ∧ y < M.length) ∧ NodesRep M W (i + 1) l rest
theorem NodesRep.mod {M M' : Mem} {W V W' : List Nat} (hm : Mod M M' V) (hV : ∀ y ∈ V, y ∈ W) (hW : ∀ y ∈ W', y ∈ W ∨ M.length ≤ y) : ∀ {l : List GN} {i : Nat} {cs : List Value}, NodesRep M W i l cs → NodesRep M' W' i l cs
  | [], _, _, h => h
  | g :: l, i, cs, ⟨ka, kc, rest, h1, h2, h3, h4⟩ =>
    ⟨ka, kc, rest, h1, h2.mod hm (fun y hy hv => (h3 y hy).1 (hV y hv)), fun y hy => ⟨fun hw => by
      rcases hW y hw with h | h
      · exact (h3 y hy).1 h
      · have := (h3 y hy).2; omega, Nat.lt_of_lt_of_le (h3 y hy).2 hm.1⟩, h4.mod hm hV hW⟩

/-- The source, as it lies in memory: M0 is what was there before it. -/
structure Rep (M0 : Mem) (Q : List Nat) (M : Mem) (x : Nat) (W : List Nat) (g : GS) where
  la : Option Addr
  lc : Nat
  na : Option Addr
  nc : Nat
  da : Option Addr
  dc : Nat
  fa : Option Addr
  fc : Nat
  ba : Option Addr
  bc : Nat
  cs : List Value
def srcV (g : GS) (la : Option Addr) (lc : Nat) (na : Option Addr) (nc : Nat) (da : Option Addr) (dc : Nat) (fa : Option Addr) (fc : Nat) (ba : Option Addr) (bc : Nat) : List Value :=
  [.slice la g.l.length lc, .int .i64 (Int.ofNat g.at_), .slice na g.ns.length nc, .slice da g.defs.length dc, .slice fa g.names.length fc, .slice ba g.bound.length bc]
structure Rep.Ok {Q : List Nat} {M0 M : Mem} {x : Nat} {W : List Nat} {g : GS} (r : Rep M0 Q M x W g) : Prop where
  hx : M0.length ≤ x
  obj : M[x]? = some (.cells (srcV g r.la r.lc r.na r.nc r.da r.dc r.fa r.fc r.ba r.bc) 6 .live)
  l : Row M r.la (g.l.map fun b => .int .u8 (b.toNat : Nat))
  lb : ∀ y ∈ blk r.la, y < M0.length
  n : Own M0 M 5 r.na g.ns.length r.nc r.cs
  ns : NodesRep M (W ++ Q) 0 g.ns r.cs
  q : ∀ y ∈ Q, y ∉ W ∧ y < M.length
  d : Own M0 M 1 r.da g.defs.length r.dc (ints (g.defs.map Int.ofNat))
  f : Own M0 M 1 r.fa g.names.length r.fc (strs g.names)
  b : OwnJ M0 M 1 r.ba g.bound.length r.bc (strs g.bound)
  bU : r.ba = none ∨ r.bc = capU
  w : W = x :: (blk r.na ++ (blk r.da ++ (blk r.fa ++ blk r.ba)))
  nd : W.Nodup

end Go.Proofs.YtabkcbaknjenmaaAM

/-
  THE NODE LAWS: the trees that are drawn: the next number.
-/
set_option linter.unusedVariables false
set_option linter.unusedSimpArgs false
namespace Go.Proofs.YtabkcbaknjenmaaAM
open Go Go.Proofs
set_option maxRecDepth 100000
set_option maxHeartbeats 4000000

theorem Rep.Ok.xW {Q : List Nat} {M0 M : Mem} {x : Nat} {W : List Nat} {g : GS} {r : Rep M0 Q M x W g} (h : r.Ok) : x ∈ W := by rw [h.w]; simp
theorem Rep.Ok.at_ {Q : List Nat} {M0 M : Mem} {x : Nat} {W : List Nat} {g : GS} {r : Rep M0 Q M x W g} (h : r.Ok) : At M x (srcV g r.la r.lc r.na r.nc r.da r.dc r.fa r.fc r.ba r.bc) := ⟨6, .live, by decide, h.obj⟩
theorem Rep.Ok.notx {Q : List Nat} {M0 M : Mem} {x : Nat} {W : List Nat} {g : GS} {r : Rep M0 Q M x W g} (h : r.Ok) : ∀ y, y ∈ blk r.na ∨ y ∈ blk r.da ∨ y ∈ blk r.fa ∨ y ∈ blk r.ba → y ≠ x := by
  have := h.nd
  rw [h.w, List.nodup_cons] at this
  rintro y hy rfl
  apply this.1
  simp only [List.mem_append]
  rcases hy with h | h | h | h
  · exact .inl h
  · exact .inr (.inl h)
  · exact .inr (.inr (.inl h))
  · exact .inr (.inr (.inr h))
/-- Only what is read next turns. -/
theorem Rep.Ok.setAt {Q : List Nat} {M0 M : Mem} {x : Nat} {W : List Nat} {g : GS} {r : Rep M0 Q M x W g} (h : r.Ok) (k : Nat) :
    ∃ r' : Rep M0 Q (M.set x (.cells (srcV { g with at_ := k } r.la r.lc r.na r.nc r.da r.dc r.fa r.fc r.ba r.bc) 6 .live)) x W { g with at_ := k }, r'.Ok ∧ r'.la = r.la ∧ r'.lc = r.lc := by
  have hm : Mod M (M.set x (.cells (srcV { g with at_ := k } r.la r.lc r.na r.nc r.da r.dc r.fa r.fc r.ba r.bc) 6 .live)) [x] := Mod.set M x _ (by simp)
  have hk : Keep M0 (M.set x (.cells (srcV { g with at_ := k } r.la r.lc r.na r.nc r.da r.dc r.fa r.fc r.ba r.bc) 6 .live)) := h.n.1.set h.hx _
  have hlt := (List.getElem?_eq_some_iff.1 h.obj).1
  refine ⟨⟨r.la, r.lc, r.na, r.nc, r.da, r.dc, r.fa, r.fc, r.ba, r.bc, r.cs⟩, ⟨h.hx, ?_, ?_, h.lb, ?_, ?_, fun y hy => ⟨(h.q y hy).1, by rw [List.length_set]; exact (h.q y hy).2⟩, ?_, ?_, ?_, h.bU, h.w, h.nd⟩, rfl, rfl⟩
  · rw [List.getElem?_set]; simp [hlt]
  · exact h.l.mod hm (fun y hy => by have := h.lb y hy; have := h.hx; simp; omega)
  · exact h.n.mod hk hm (fun y hy => by simpa using h.notx y (.inl hy))
  · exact h.ns.mod hm (fun y hy => by simp at hy; subst hy; exact List.mem_append_left _ h.xW) (fun y hy => .inl hy)
  · exact h.d.mod hk hm (fun y hy => by simpa using h.notx y (.inr (.inl hy)))
  · exact h.f.mod hk hm (fun y hy => by simpa using h.notx y (.inr (.inr (.inl hy))))
  · exact h.b.mod hk hm (fun y hy => by simpa using h.notx y (.inr (.inr (.inr hy))))

theorem k25 : (kindT Try.prog 25).map aggK = some false := by kernel_rfl
theorem k5 : (kindT Try.prog 5).map aggK = some false := by kernel_rfl
theorem remN {a b : Nat} (hb : 0 < b) (hb2 : b < 1000000) (x y : Operand) : binA Try.prog .rem 3 x y (.int .i64 (Int.ofNat a)) (.int .i64 (Int.ofNat b)) = some (.int .i64 (Int.ofNat (a % b))) := by
  cases b with
  | zero => omega
  | succ b =>
    have h : binA Try.prog .rem 3 x y (.int .i64 (Int.ofNat a)) (.int .i64 (Int.ofNat (b + 1))) = some (.int .i64 (Int.tmod (Int.ofNat a) (Int.ofNat (b + 1)))) := by kernel_rfl
    rw [h]; rfl
theorem idx25 {x o n c k : Nat} {i : Int} (hi : i = Int.ofNat k) (hk : k < n) : idxA Try.prog 25 (.slice (some ⟨x, o, none⟩) n c) (.int .i64 i) = some (.pointer (some ⟨x, o + k, none⟩)) := by
  have := idx_of (ty := 25) (e := 5) (size := 1) (by kernel_rfl) (by kernel_rfl) (x := x) (o := o) (n := n) (c := c) (kk := .i64) hi hk
  rwa [Nat.mul_one] at this

theorem next_ret {Q : List Nat} {M0 M : Mem} {x : Nat} {W : List Nat} {g : GS} {r : Rep M0 Q M x W g} (h : r.Ok) (hl : g.l.length ≤ 1000) {n : Nat} (hn : 0 < n) (hn2 : n < 1000) :
    ∃ M' r', (r' : Rep M0 Q M' x W (g.next n).2).Ok ∧ Mod M M' W ∧ Ret Try.prog 31 [.pointer (some ⟨x, 0, none⟩), .int .i64 (Int.ofNat n)] M (.int .i64 (Int.ofNat (g.next n).1)) M' := by
  have hA := h.at_
  by_cases hlt : g.at_ < g.l.length
  · have hnext : g.next n = (g.l[g.at_].toNat % n, { g with at_ := g.at_ + 1 }) := by
      unfold GS.next; rw [List.getElem?_eq_getElem hlt]
    rw [hnext]
    obtain ⟨r', h', e1, e2⟩ := h.setAt (g.at_ + 1)
    refine ⟨_, r', h', Mod.set M x _ h.xW, ?_⟩
    have hA' := h'.at_
    rw [e1, e2] at hA'
    have hwr : wrCells M x 1 [.int .i64 (wrapF .i64 (Int.add (Int.ofNat g.at_) (Int.ofNat 1)))] = some (M.set x (.cells (srcV { g with at_ := g.at_ + 1 } r.la r.lc r.na r.nc r.da r.dc r.fa r.fc r.ba r.bc) 6 .live)) := by
      rw [add64 (by omega), wrCells_at h.obj (by show 1 + 1 ≤ 6; omega) rfl]
      rfl
    have hrow := h'.l
    rw [e1] at hrow
    rcases hrow with hrow | ⟨b, o, hb, hrow⟩
    · simp at hrow
      rw [hrow] at hlt; simp at hlt
    · have hc := hrow g.at_ (by simpa using hlt)
      simp only [List.getElem_map] at hc
      have hsub : wrapF .i64 (Int.sub (Int.ofNat (g.at_ + 1)) (Int.ofNat 1)) = Int.ofNat g.at_ := by rw [sub64 (by omega) (by omega)]; rfl
      refine Ret.wpToH hP (w31 (p0 := x) (p1 := Int.ofNat n) (M := M) ⟨_, hA.rd k3 rfl, _, _, _, hA.rd k25 rfl, trivial, cnd_f' (leF_f.2 (Int.ofNat_lt.2 hlt)) ⟨_, hA.rd k3 rfl, _, hwr, _, _, _, hA'.rd k25 rfl, _, hA'.rd k3 rfl, ?_⟩⟩)
      have hidx : idxA Try.prog 25 (.slice r.la g.l.length r.lc) (.int .i64 (wrapF .i64 (Int.sub (Int.ofNat (g.at_ + 1)) (Int.ofNat 1)))) = some (.pointer (some ⟨b, o + g.at_, none⟩)) := by rw [hb]; exact idx25 hsub hlt
      refine ⟨_, _, hidx, _, rd_of_cell k5 hc, _, ?_, trivial, rfl, rfl⟩
      have e : IntKind.wrap .i64 ((g.l[g.at_].toNat : Nat) : Int) = Int.ofNat g.l[g.at_].toNat := by
        have := g.l[g.at_].toNat_lt
        rw [← wrapF_eq]; exact wrap64 (by omega) (by omega)
      rw [e]
      exact remN hn (by omega) _ _
  · have hnext : g.next n = (0, g) := by
      unfold GS.next; rw [List.getElem?_eq_none (by omega)]
    rw [hnext]
    exact ⟨M, r, h, .refl _ _, Ret.wpToH hP (w31 (p0 := x) (p1 := Int.ofNat n) (M := M) ⟨_, hA.rd k3 rfl, _, _, _, hA.rd k25 rfl, trivial, cnd_t' (leF_t.2 (Int.ofNat_le.2 (by omega))) ⟨rfl, rfl⟩⟩)⟩

end Go.Proofs.YtabkcbaknjenmaaAM

/-
  THE NODE LAWS: the trees that are drawn: small steps.
-/
set_option linter.unusedVariables false
set_option linter.unusedSimpArgs false
namespace Go.Proofs.YtabkcbaknjenmaaAM
open Go Go.Proofs
set_option maxRecDepth 100000
set_option maxHeartbeats 4000000

theorem k30 : (kindT Try.prog 30).map aggK = some false := by kernel_rfl
theorem full_ret {Q : List Nat} {M0 M : Mem} {x : Nat} {W : List Nat} {g : GS} {r : Rep M0 Q M x W g} (h : r.Ok) (d : Int) : Ret Try.prog 77 [.pointer (some ⟨x, 0, none⟩), .int .i64 d] M (.bool (g.full d)) M := by
  have hA := h.at_
  have e1 : decide (d ≤ 0) = leF d (Int.ofNat 0) := by rw [Bool.eq_iff_iff, decide_eq_true_iff, leF_t]; rfl
  have e2 : decide (150 < g.ns.length) = !leF (Int.ofNat g.ns.length) (Int.ofNat 150) := by
    rw [Bool.eq_iff_iff, decide_eq_true_iff, Bool.not_eq_true', leF_f]; exact Int.ofNat_lt.symm
  have e3 : decide (g.l.length ≤ g.at_) = leF (Int.ofNat g.l.length) (Int.ofNat g.at_) := by
    rw [Bool.eq_iff_iff, decide_eq_true_iff, leF_t]; exact Int.ofNat_le.symm
  unfold GS.full
  rw [e1, e2, e3]
  refine Ret.wpToH hP (w77 (p0 := x) (p1 := d) (M := M) (cnd_of (fun e => ⟨trivial, by rw [e]; rfl, rfl⟩) (fun e => ⟨_, _, _, hA.rd k30 rfl, cnd_of (fun e' => ⟨trivial, by rw [e, e']; rfl, rfl⟩) (fun e' => ⟨_, hA.rd k3 rfl, _, _, _, hA.rd k25 rfl, trivial, by rw [e, e']; rfl, rfl⟩)⟩)))

theorem Own.lt {M M1 : Mem} {sz n c : Nat} {a : Option Addr} {l : List Value} (h : Own M M1 sz a n c l) : ∀ y ∈ blk a, y < M1.length := by
  intro y hy
  rcases h.2.2 with ⟨rfl, _⟩ | ⟨b, rfl, _, h5, _⟩
  · simp [blk] at hy
  · simp [blk] at hy; subst hy; exact (List.getElem?_eq_some_iff.1 h5).1
theorem OwnJ.lt {M M1 : Mem} {sz n c : Nat} {a : Option Addr} {l : List Value} (h : OwnJ M M1 sz a n c l) : ∀ y ∈ blk a, y < M1.length := by
  intro y hy
  rcases h.2.2 with ⟨rfl, _⟩ | ⟨b, jk, rfl, _, h5, _⟩
  · simp [blk] at hy
  · simp [blk] at hy; subst hy; exact (List.getElem?_eq_some_iff.1 h5).1
theorem Rep.Ok.wlt {Q : List Nat} {M0 M : Mem} {x : Nat} {W : List Nat} {g : GS} {r : Rep M0 Q M x W g} (h : r.Ok) : ∀ y ∈ W, y < M.length := by
  intro y hy
  rw [h.w] at hy
  simp only [List.mem_cons, List.mem_append] at hy
  rcases hy with rfl | hy | hy | hy | hy
  · exact (List.getElem?_eq_some_iff.1 h.obj).1
  · exact h.n.lt y hy
  · exact h.d.lt y hy
  · exact h.f.lt y hy
  · exact h.b.lt y hy
/-- New memory behind it does nothing to the source. -/
theorem Rep.Ok.grow {Q : List Nat} {M0 M : Mem} {x : Nat} {W : List Nat} {g : GS} {r : Rep M0 Q M x W g} (h : r.Ok) (G : Mem) : ∃ r' : Rep M0 Q (M ++ G) x W g, r'.Ok := by
  have hm : Mod M (M ++ G) [] := .app _ _ _
  have hk : Keep M0 (M ++ G) := h.n.1.trans (.app _ _)
  refine ⟨⟨r.la, r.lc, r.na, r.nc, r.da, r.dc, r.fa, r.fc, r.ba, r.bc, r.cs⟩, ⟨h.hx, ?_, h.l.mod hm (by simp), h.lb, h.n.mod hk hm (by simp), h.ns.mod hm (by simp) (fun y hy => .inl hy), fun y hy => ⟨(h.q y hy).1, by rw [List.length_append]; have := (h.q y hy).2; omega⟩, h.d.mod hk hm (by simp), h.f.mod hk hm (by simp), h.b.mod hk hm (by simp), h.bU, h.w, h.nd⟩⟩
  rw [List.getElem?_append_left (List.getElem?_eq_some_iff.1 h.obj).1]; exact h.obj
theorem next_lt (g : GS) {n : Nat} (hn : 0 < n) : (g.next n).1 < n := by
  unfold GS.next
  split
  · exact Nat.mod_lt _ hn
  · exact hn

/-- One of some texts, drawn. -/
theorem pick_ret {Q : List Nat} {M0 M : Mem} {x : Nat} {W : List Nat} {g : GS} {r : Rep M0 Q M x W g} (h : r.Ok) (hl : g.l.length ≤ 1000) {L : List ByteArray} {n : Nat} (hn : 0 < n) (hL : n ≤ L.length) (hn2 : n < 1000) :
    ∃ M' r', (r' : Rep M0 Q M' x W (g.next n).2).Ok ∧ Mod M M' W ∧ Ret Try.prog 31 [.pointer (some ⟨x, 0, none⟩), .int .i64 (Int.ofNat n)] (M ++ [AObj.cells (strs L) 1 .live]) (.int .i64 (Int.ofNat (g.next n).1)) M' ∧
      ∃ y o, idxA Try.prog 53 (.slice (some ⟨M.length, 0, none⟩) L.length L.length) (.int .i64 (Int.ofNat (g.next n).1)) = some (.pointer (some ⟨y, o, none⟩)) ∧ rdVar Try.prog M' 9 y o = some (.string (L.getD (g.next n).1 noText)) := by
  obtain ⟨r1, h1⟩ := h.grow [AObj.cells (strs L) 1 .live]
  obtain ⟨M', r', h', hm, hr⟩ := next_ret h1 hl hn hn2
  have hlt := Nat.lt_of_lt_of_le (next_lt g hn) hL
  have hrow : Row M' (some ⟨M.length, 0, none⟩) (strs L) := (Row.new M (strs L) []).mod hm (fun y hy hw => by
    simp [blk] at hy; subst hy
    exact absurd (h.wlt _ hw) (Nat.lt_irrefl _))
  obtain ⟨y, o, h2, h3⟩ := strs_at hrow hlt (c := L.length) rfl
  refine ⟨M', r', h', (Mod.app M _ W).trans hm (fun y hy => .inl hy), hr, y, o, h2, ?_⟩
  rw [h3, List.getD_eq_getElem?_getD, List.getElem?_eq_getElem hlt]; rfl
theorem binder_ret {Q : List Nat} {M0 M : Mem} {x : Nat} {W : List Nat} {g : GS} {r : Rep M0 Q M x W g} (h : r.Ok) (hl : g.l.length ≤ 1000) :
    ∃ M' r', (r' : Rep M0 Q M' x W g.binder.2).Ok ∧ Mod M M' W ∧ Ret Try.prog 50 [.pointer (some ⟨x, 0, none⟩)] M (.string g.binder.1) M' := by
  obtain ⟨M', r', h', hm, hr, y, o, h2, h3⟩ := pick_ret h hl (L := bindersG) (n := 6) (by decide) (by decide) (by decide)
  exact ⟨M', r', h', hm, Ret.wpToH hP (w50 (p0 := x) (M := M) ⟨_, _, hr, _, _, h2, _, h3, rfl, rfl⟩)⟩
theorem text_ret {Q : List Nat} {M0 M : Mem} {x : Nat} {W : List Nat} {g : GS} {r : Rep M0 Q M x W g} (h : r.Ok) (hl : g.l.length ≤ 1000) :
    ∃ M' r', (r' : Rep M0 Q M' x W g.text.2).Ok ∧ Mod M M' W ∧ Ret Try.prog 99 [.pointer (some ⟨x, 0, none⟩)] M (.string g.text.1) M' := by
  obtain ⟨M', r', h', hm, hr, y, o, h2, h3⟩ := pick_ret h hl (L := textsG) (n := 7) (by decide) (by decide) (by decide)
  exact ⟨M', r', h', hm, Ret.wpToH hP (w99 (p0 := x) (M := M) ⟨_, _, hr, _, _, h2, _, h3, rfl, rfl⟩)⟩
theorem digits_ret {Q : List Nat} {M0 M : Mem} {x : Nat} {W : List Nat} {g : GS} {r : Rep M0 Q M x W g} (h : r.Ok) (hl : g.l.length ≤ 1000) :
    ∃ M' r', (r' : Rep M0 Q M' x W g.digits.2).Ok ∧ Mod M M' W ∧ Ret Try.prog 100 [.pointer (some ⟨x, 0, none⟩)] M (.string g.digits.1) M' := by
  obtain ⟨M', r', h', hm, hr, y, o, h2, h3⟩ := pick_ret h hl (L := digitsG) (n := 10) (by decide) (by decide) (by decide)
  exact ⟨M', r', h', hm, Ret.wpToH hP (w100 (p0 := x) (M := M) ⟨_, _, hr, _, _, h2, _, h3, rfl, rfl⟩)⟩

end Go.Proofs.YtabkcbaknjenmaaAM

/-
  THE NODE LAWS: the trees that are drawn: a node is added.
-/
set_option linter.unusedVariables false
set_option linter.unusedSimpArgs false
namespace Go.Proofs.YtabkcbaknjenmaaAM
open Go Go.Proofs
set_option maxRecDepth 100000
set_option maxHeartbeats 4000000

theorem E30 : Elem 30 30 24 5 72 := ⟨by kernel_rfl, by kernel_rfl, by kernel_rfl, ⟨.agg #[.int .i64 0, .string ⟨#[]⟩, .string ⟨#[]⟩, .slice none 0 0, .int .i64 0], by kernel_rfl, rfl⟩, .inl (by kernel_rfl), by decide⟩
theorem NodesRep.snoc {M : Mem} {W : List Nat} {e : GN} {ka : Option Addr} {kc : Nat} (h2 : SliceR M 1 ka e.kids.length kc (ints (e.kids.map Int.ofNat))) (h3 : ∀ y ∈ blk ka, y ∉ W ∧ y < M.length) : ∀ {l : List GN} {i : Nat} {cs : List Value}, NodesRep M W i l cs →
    NodesRep M W i (l ++ [e]) (cs ++ nodeV (Int.ofNat e.kind) e.name e.arg ka e.kids.length kc (Int.ofNat (i + l.length)))
  | [], i, cs, h => by
    have h : cs = [] := h
    subst h
    exact ⟨ka, kc, [], by simp, h2, h3, rfl⟩
  | g :: l, i, cs, ⟨ka', kc', rest, h1, k2, k3, h4⟩ => by
    refine ⟨ka', kc', rest ++ nodeV (Int.ofNat e.kind) e.name e.arg ka e.kids.length kc (Int.ofNat (i + (l.length + 1))), by rw [h1, List.append_assoc]; rfl, k2, k3, ?_⟩
    have := NodesRep.snoc (kc := kc) h2 h3 h4
    rwa [show i + 1 + l.length = i + (l.length + 1) by omega] at this

theorem Own.ge {M M1 : Mem} {sz n c : Nat} {a : Option Addr} {l : List Value} (h : Own M M1 sz a n c l) : ∀ y ∈ blk a, M.length ≤ y := by
  intro y hy
  rcases h.2.2 with ⟨rfl, _⟩ | ⟨b, rfl, h4, _, _⟩
  · simp [blk] at hy
  · simp [blk] at hy; subst hy; exact h4
theorem add_ret {Q : List Nat} {M0 M : Mem} {x : Nat} {W : List Nat} {g : GS} {r : Rep M0 Q M x W g} (h : r.Ok) (hns : g.ns.length ≤ 1000000) (e : GN) {a : Option Addr} {c : Nat} (hr : SliceR M 1 a e.kids.length c (ints (e.kids.map Int.ofNat))) (hb : ∀ y ∈ blk a, y ∉ W ∧ y ∉ Q ∧ y < M.length) :
    ∃ M' W' r', (r' : Rep M0 Q M' x W' (g.add e)).Ok ∧ Mod M M' W ∧ (∀ y ∈ W', y ∈ W ∨ M.length ≤ y) ∧
      Ret Try.prog 55 [.pointer (some ⟨x, 0, none⟩), .int .i64 (Int.ofNat e.kind), .string e.name, .string e.arg, .slice a e.kids.length c] M (.int .i64 (Int.ofNat g.ns.length)) M' := by
  have hA := h.at_
  obtain ⟨r1, h1⟩ := h.grow [AObj.cells (nodeV (Int.ofNat e.kind) e.name e.arg a e.kids.length c (Int.ofNat g.ns.length)) 5 .live]
  have hlen1 : (M ++ [AObj.cells (nodeV (Int.ofNat e.kind) e.name e.arg a e.kids.length c (Int.ofNat g.ns.length)) 5 .live]).length = M.length + 1 := by simp
  have hn1 := h.n.keep (.app M [AObj.cells (nodeV (Int.ofNat e.kind) e.name e.arg a e.kids.length c (Int.ofNat g.ns.length)) 5 .live])
  obtain ⟨c', M9, h9, hO9, hm9, hl9, hc9⟩ := append_own2 E30 hn1 (src_at (n := 1) (c := 1) (get_last M _) rfl) rfl rfl (by omega) (by omega) (by decide)
  have hx9 : M9[x]? = some (.cells (srcV g r.la r.lc r.na r.nc r.da r.dc r.fa r.fc r.ba r.bc) 6 .live) := by
    have hxl := (List.getElem?_eq_some_iff.1 h.obj).1
    rw [hm9.2 x (by omega) (fun hm => h.notx x (.inl hm) rfl), List.getElem?_append_left hxl]; exact h.obj
  have hwr : wrCells M9 x 2 [.slice (some ⟨(M ++ [AObj.cells (nodeV (Int.ofNat e.kind) e.name e.arg a e.kids.length c (Int.ofNat g.ns.length)) 5 .live]).length, 0, none⟩) (g.ns.length + 1) c'] =
      some (M9.set x (.cells (srcV (g.add e) r.la r.lc (some ⟨M.length + 1, 0, none⟩) c' r.da r.dc r.fa r.fc r.ba r.bc) 6 .live)) := by
    rw [wrCells_at hx9 (by show 2 + 1 ≤ 6; omega) rfl, hlen1]
    simp [srcV, GS.add, splice]
  have hx9l := (List.getElem?_eq_some_iff.1 hx9).1
  have hm10 : Mod M9 (M9.set x (.cells (srcV (g.add e) r.la r.lc (some ⟨M.length + 1, 0, none⟩) c' r.da r.dc r.fa r.fc r.ba r.bc) 6 .live)) [x] := Mod.set M9 x _ (by simp)
  have hmT : Mod M (M9.set x (.cells (srcV (g.add e) r.la r.lc (some ⟨M.length + 1, 0, none⟩) c' r.da r.dc r.fa r.fc r.ba r.bc) 6 .live)) (x :: blk r.na) := by
    refine ((Mod.app M _ (x :: blk r.na)).trans hm9 (fun y hy => .inl (by simp [hy]))).trans hm10 (fun y hy => .inl (by simp at hy; simp [hy]))
  have hsub : ∀ y ∈ (x :: blk r.na), y ∈ W := by
    intro y hy; rw [h.w]; simp only [List.mem_cons, List.mem_append] at hy ⊢
    rcases hy with h | h
    · exact .inl h
    · exact .inr (.inl h)
  have hmW : Mod M (M9.set x (.cells (srcV (g.add e) r.la r.lc (some ⟨M.length + 1, 0, none⟩) c' r.da r.dc r.fa r.fc r.ba r.bc) 6 .live)) W := ⟨hmT.1, fun y hy hn => hmT.2 y hy (fun hm => hn (hsub y hm))⟩
  have hk : Keep M0 (M9.set x (.cells (srcV (g.add e) r.la r.lc (some ⟨M.length + 1, 0, none⟩) c' r.da r.dc r.fa r.fc r.ba r.bc) 6 .live)) := hO9.1.set h.hx _
  have hnd := h.nd
  rw [h.w] at hnd
  have hdis : ∀ y, y ∈ blk r.da ∨ y ∈ blk r.fa ∨ y ∈ blk r.ba → y ∉ (x :: blk r.na) := by
    intro y hy hm
    simp only [List.mem_cons] at hm
    rcases hm with e | hm
    · exact h.notx y (.inr hy) e
    · rw [List.nodup_cons] at hnd
      have := (List.nodup_append.1 hnd.2).2.2 y hm y (by simp only [List.mem_append]; exact hy)
      exact this rfl
  have hold : ∀ y, y ∈ blk r.da ∨ y ∈ blk r.fa ∨ y ∈ blk r.ba → y < M.length := by
    intro y hy
    apply h.wlt
    rw [h.w]; simp only [List.mem_cons, List.mem_append]
    exact .inr (.inr hy)
  have hxl := (List.getElem?_eq_some_iff.1 h.obj).1
  have hW' : ∀ y ∈ (x :: ([M.length + 1] ++ (blk r.da ++ (blk r.fa ++ blk r.ba)))), y ∈ W ∨ M.length ≤ y := by
    intro y hy
    simp only [List.mem_cons, List.mem_append, List.not_mem_nil, or_false] at hy
    rcases hy with e | e | e
    · exact .inl (e ▸ h.xW)
    · exact .inr (by omega)
    · refine .inl ?_
      rw [h.w]; simp only [List.mem_cons, List.mem_append]
      exact .inr (.inr e)
  have hobj : (M9.set x (.cells (srcV (g.add e) r.la r.lc (some ⟨M.length + 1, 0, none⟩) c' r.da r.dc r.fa r.fc r.ba r.bc) 6 .live))[x]? = some (.cells (srcV (g.add e) r.la r.lc (some ⟨M.length + 1, 0, none⟩) c' r.da r.dc r.fa r.fc r.ba r.bc) 6 .live) := by
    rw [List.getElem?_set]; simp [hx9l]
  have hA10 : At (M9.set x (.cells (srcV (g.add e) r.la r.lc (some ⟨M.length + 1, 0, none⟩) c' r.da r.dc r.fa r.fc r.ba r.bc) 6 .live)) x _ := ⟨6, .live, by decide, hobj⟩
  rw [hlen1] at hO9
  refine ⟨_, x :: ([M.length + 1] ++ (blk r.da ++ (blk r.fa ++ blk r.ba))), ⟨r.la, r.lc, some ⟨M.length + 1, 0, none⟩, c', r.da, r.dc, r.fa, r.fc, r.ba, r.bc, r.cs ++ nodeV (Int.ofNat e.kind) e.name e.arg a e.kids.length c (Int.ofNat g.ns.length)⟩,
    ⟨h.hx, hobj, h.l.mod hmT ?_, h.lb, ?_, ?_, fun y hy => ⟨fun hw => (hW' y hw).elim (h.q y hy).1 (fun h2 => by have := (h.q y hy).2; omega), Nat.lt_of_lt_of_le (h.q y hy).2 hmT.1⟩, h.d.mod hk hmT (fun y hy => hdis y (.inl hy)), h.f.mod hk hmT (fun y hy => hdis y (.inr (.inl hy))), h.b.mod hk hmT (fun y hy => hdis y (.inr (.inr hy))), h.bU, rfl, ?_⟩, hmW, hW', ?_⟩
  · intro y hy hm
    have h1 := h.lb y hy
    simp only [List.mem_cons] at hm
    rcases hm with e | hm
    · have := h.hx; omega
    · have := h.n.ge y hm; omega
  · have := hO9.mod hk hm10 (fun y hy => by simp [blk] at hy; subst hy; simp; omega)
    simpa [GS.add] using this
  · have hs := NodesRep.snoc (M := M9.set x (.cells (srcV (g.add e) r.la r.lc (some ⟨M.length + 1, 0, none⟩) c' r.da r.dc r.fa r.fc r.ba r.bc) 6 .live)) (W := (x :: ([M.length + 1] ++ (blk r.da ++ (blk r.fa ++ blk r.ba)))) ++ Q) (e := e) (kc := c) (hr.mod hmW (fun y hy => (hb y hy).1))
      (fun y hy => ⟨fun hw => by
        rcases List.mem_append.1 hw with hw | hw
        · rcases hW' y hw with h' | h'
          · exact (hb y hy).1 h'
          · have := (hb y hy).2.2; omega
        · exact (hb y hy).2.1 hw, Nat.lt_of_lt_of_le (hb y hy).2.2 hmW.1⟩) (h.ns.mod hmT (fun y hy => List.mem_append_left _ (hsub y hy)) (fun y hy => by
          rcases List.mem_append.1 hy with h1 | h1
          · rcases hW' y h1 with h2 | h2
            · exact .inl (List.mem_append_left _ h2)
            · exact .inr h2
          · exact .inl (List.mem_append_right _ h1)))
    rw [Nat.zero_add] at hs
    exact hs
  · rw [List.nodup_cons] at hnd ⊢
    have h2 := List.nodup_append.1 hnd.2
    refine ⟨?_, ?_⟩
    · intro hm
      simp only [List.mem_append, List.mem_cons, List.not_mem_nil, or_false] at hm
      rcases hm with e | e
      · omega
      · exact h.notx x (.inr e) rfl
    · rw [List.nodup_append]
      refine ⟨by simp, h2.2.1, ?_⟩
      intro y hy z hz e
      simp at hy
      have := hold z (by simpa [List.mem_append] using hz)
      omega
  · refine Ret.wpToH hP (w55 (p0 := x) (p1 := Int.ofNat e.kind) (p2 := e.name) (p3 := e.arg) (p4 := a) (p4n := e.kids.length) (p4c := c) (M := M) ⟨_, _, _, hA.rd k30 rfl, _, _, _, hA.rd k30 rfl, _, _, _, _, h9, _, hwr, trivial, _, _, _, hA10.rd k30 rfl, ?_, rfl⟩)
    congr 1
    have : (g.add e).ns.length = g.ns.length + 1 := by simp [GS.add]
    rw [this, sub64 (by omega) (by omega)]; rfl

end Go.Proofs.YtabkcbaknjenmaaAM

/-
  THE NODE LAWS: the trees that are drawn: names are bound, and bound no more.
-/
set_option linter.unusedVariables false
set_option linter.unusedSimpArgs false
namespace Go.Proofs.YtabkcbaknjenmaaAM
open Go Go.Proofs
set_option maxRecDepth 100000
set_option maxHeartbeats 4000000

theorem under_ret {Q : List Nat} {M0 M : Mem} {x : Nat} {W : List Nat} {g : GS} {r : Rep M0 Q M x W g} (h : r.Ok) (hbn : g.bound.length ≤ 100000) (nm : ByteArray) :
    ∃ M' W' r', (r' : Rep M0 Q M' x W' (g.under nm)).Ok ∧ Mod M M' W ∧ (∀ y ∈ W', y ∈ W ∨ M.length ≤ y) ∧ Ret Try.prog 52 [.pointer (some ⟨x, 0, none⟩), .string nm] M (.tuple ⟨[]⟩) M' := by
  have hA := h.at_
  have hlen1 : (M ++ [AObj.cells [.string nm] 1 .live]).length = M.length + 1 := by simp
  have hk1 : Keep M0 (M ++ [AObj.cells [.string nm] 1 .live]) := h.n.1.trans (.app _ _)
  have hb1 := h.b.mod hk1 (.app M [AObj.cells [.string nm] 1 .live] []) (by simp)
  obtain ⟨c', M9, h9, hO9, hm9, hl9, hc9⟩ := append_ownJ E53 hb1 (src_at (n := 1) (c := 1) (get_last M _) rfl) rfl rfl (by omega) (by omega) (by decide)
  have hxl := (List.getElem?_eq_some_iff.1 h.obj).1
  have hx9 : M9[x]? = some (.cells (srcV g r.la r.lc r.na r.nc r.da r.dc r.fa r.fc r.ba r.bc) 6 .live) := by
    rw [hm9.2 x (by omega) (fun hm => h.notx x (.inr (.inr (.inr hm))) rfl), List.getElem?_append_left hxl]; exact h.obj
  have hwr : wrCells M9 x 5 [.slice (some ⟨(M ++ [AObj.cells [.string nm] 1 .live]).length, 0, none⟩) (g.bound.length + 1) c'] =
      some (M9.set x (.cells (srcV (g.under nm) r.la r.lc r.na r.nc r.da r.dc r.fa r.fc (some ⟨M.length + 1, 0, none⟩) c') 6 .live)) := by
    rw [wrCells_at hx9 (by show 5 + 1 ≤ 6; omega) rfl, hlen1]
    simp [srcV, GS.under, splice]
  have hx9l := (List.getElem?_eq_some_iff.1 hx9).1
  have hm10 : Mod M9 (M9.set x (.cells (srcV (g.under nm) r.la r.lc r.na r.nc r.da r.dc r.fa r.fc (some ⟨M.length + 1, 0, none⟩) c') 6 .live)) [x] := Mod.set M9 x _ (by simp)
  have hmT : Mod M (M9.set x (.cells (srcV (g.under nm) r.la r.lc r.na r.nc r.da r.dc r.fa r.fc (some ⟨M.length + 1, 0, none⟩) c') 6 .live)) (x :: blk r.ba) := by
    refine ((Mod.app M _ (x :: blk r.ba)).trans hm9 (fun y hy => .inl (by simp [hy]))).trans hm10 (fun y hy => .inl (by simp at hy; simp [hy]))
  have hsub : ∀ y ∈ (x :: blk r.ba), y ∈ W := by
    intro y hy; rw [h.w]; simp only [List.mem_cons, List.mem_append] at hy ⊢
    rcases hy with h | h
    · exact .inl h
    · exact .inr (.inr (.inr (.inr h)))
  have hmW : Mod M (M9.set x (.cells (srcV (g.under nm) r.la r.lc r.na r.nc r.da r.dc r.fa r.fc (some ⟨M.length + 1, 0, none⟩) c') 6 .live)) W := ⟨hmT.1, fun y hy hn => hmT.2 y hy (fun hm => hn (hsub y hm))⟩
  have hk : Keep M0 (M9.set x (.cells (srcV (g.under nm) r.la r.lc r.na r.nc r.da r.dc r.fa r.fc (some ⟨M.length + 1, 0, none⟩) c') 6 .live)) := hO9.1.set h.hx _
  have hnd := h.nd
  rw [h.w] at hnd
  have hnd1 := List.nodup_cons.1 hnd
  have e1 := List.nodup_append.1 hnd1.2
  have e2 := List.nodup_append.1 e1.2.1
  have e3 := List.nodup_append.1 e2.2.1
  have hdis : ∀ y, y ∈ blk r.na ∨ y ∈ blk r.da ∨ y ∈ blk r.fa → y ∉ (x :: blk r.ba) := by
    intro y hy hm
    simp only [List.mem_cons] at hm
    rcases hm with e | hm
    · exact h.notx y (by rcases hy with h | h | h; exact .inl h; exact .inr (.inl h); exact .inr (.inr (.inl h))) e
    · rcases hy with hy | hy | hy
      · exact e1.2.2 y hy y (by simp only [List.mem_append]; exact .inr (.inr hm)) rfl
      · exact e2.2.2 y hy y (by simp only [List.mem_append]; exact .inr hm) rfl
      · exact e3.2.2 y hy y hm rfl
  have hold : ∀ y, y ∈ blk r.na ∨ y ∈ blk r.da ∨ y ∈ blk r.fa → y ∈ W ∧ y < M.length := by
    intro y hy
    have : y ∈ W := by
      rw [h.w]; simp only [List.mem_cons, List.mem_append]
      rcases hy with h | h | h
      · exact .inr (.inl h)
      · exact .inr (.inr (.inl h))
      · exact .inr (.inr (.inr (.inl h)))
    exact ⟨this, h.wlt y this⟩
  have hW' : ∀ y ∈ (x :: (blk r.na ++ (blk r.da ++ (blk r.fa ++ [M.length + 1])))), y ∈ W ∨ M.length ≤ y := by
    intro y hy
    simp only [List.mem_cons, List.mem_append, List.not_mem_nil, or_false] at hy
    rcases hy with e | e | e | e | e
    · exact .inl (e ▸ h.xW)
    · exact .inl (hold y (.inl e)).1
    · exact .inl (hold y (.inr (.inl e))).1
    · exact .inl (hold y (.inr (.inr e))).1
    · exact .inr (by omega)
  have hobj : (M9.set x (.cells (srcV (g.under nm) r.la r.lc r.na r.nc r.da r.dc r.fa r.fc (some ⟨M.length + 1, 0, none⟩) c') 6 .live))[x]? = some (.cells (srcV (g.under nm) r.la r.lc r.na r.nc r.da r.dc r.fa r.fc (some ⟨M.length + 1, 0, none⟩) c') 6 .live) := by
    rw [List.getElem?_set]; simp [hx9l]
  rw [hlen1] at hO9
  refine ⟨_, x :: (blk r.na ++ (blk r.da ++ (blk r.fa ++ [M.length + 1]))), ⟨r.la, r.lc, r.na, r.nc, r.da, r.dc, r.fa, r.fc, some ⟨M.length + 1, 0, none⟩, c', r.cs⟩,
    ⟨h.hx, hobj, h.l.mod hmT ?_, h.lb, h.n.mod hk hmT (fun y hy => hdis y (.inl hy)), h.ns.mod hmT (fun y hy => List.mem_append_left _ (hsub y hy)) (fun y hy => by
      rcases List.mem_append.1 hy with h1 | h1
      · rcases hW' y h1 with h2 | h2
        · exact .inl (List.mem_append_left _ h2)
        · exact .inr h2
      · exact .inl (List.mem_append_right _ h1)), fun y hy => ⟨fun hw => (hW' y hw).elim (h.q y hy).1 (fun h2 => by have := (h.q y hy).2; omega), Nat.lt_of_lt_of_le (h.q y hy).2 hmT.1⟩, h.d.mod hk hmT (fun y hy => hdis y (.inr (.inl hy))), h.f.mod hk hmT (fun y hy => hdis y (.inr (.inr hy))), ?_, .inr hc9, rfl, ?_⟩, hmW, hW', ?_⟩
  · intro y hy hm
    have h1 := h.lb y hy
    simp only [List.mem_cons] at hm
    rcases hm with e | hm
    · have := h.hx; omega
    · rcases h.b.2.2 with ⟨e, _⟩ | ⟨b, jk, e, h4, _⟩
      · rw [e] at hm; simp [blk] at hm
      · rw [e] at hm; simp [blk] at hm; omega
  · have := hO9.junk.mod hk hm10 (fun y hy => by simp [blk] at hy; subst hy; simp; omega)
    simpa [GS.under, strs] using this
  · refine List.nodup_cons.2 ⟨?_, ?_⟩
    · intro hm
      simp only [List.mem_append, List.mem_cons, List.not_mem_nil, or_false] at hm
      rcases hm with e | e | e | e
      · exact h.notx x (.inl e) rfl
      · exact h.notx x (.inr (.inl e)) rfl
      · exact h.notx x (.inr (.inr (.inl e))) rfl
      · omega
    · refine List.nodup_append.2 ⟨e1.1, List.nodup_append.2 ⟨e2.1, List.nodup_append.2 ⟨e3.1, by simp, ?_⟩, ?_⟩, ?_⟩
      · intro y hy z hz e
        simp at hz
        have := (hold y (.inr (.inr hy))).2
        omega
      · intro y hy z hz e
        simp only [List.mem_append, List.mem_cons, List.not_mem_nil, or_false] at hz
        rcases hz with hz | hz
        · exact e2.2.2 y hy z (by simp [hz]) e
        · have := (hold y (.inr (.inl hy))).2; omega
      · intro y hy z hz e
        simp only [List.mem_append, List.mem_cons, List.not_mem_nil, or_false] at hz
        rcases hz with hz | hz | hz
        · exact e1.2.2 y hy z (by simp [hz]) e
        · exact e1.2.2 y hy z (by simp [hz]) e
        · have := (hold y (.inl hy)).2; omega
  · exact Ret.wpToH hP (w52 (p0 := x) (p1 := nm) (M := M) ⟨_, _, _, hA.rd k53 rfl, _, _, _, _, h9, _, hwr, rfl, rfl⟩)

end Go.Proofs.YtabkcbaknjenmaaAM

/-
  THE NODE LAWS: the trees that are drawn: the last name is bound no more.
-/
set_option linter.unusedVariables false
set_option linter.unusedSimpArgs false
namespace Go.Proofs.YtabkcbaknjenmaaAM
open Go Go.Proofs
set_option maxRecDepth 100000
set_option maxHeartbeats 4000000

theorem up_ret {Q : List Nat} {M0 M : Mem} {x : Nat} {W : List Nat} {g : GS} {r : Rep M0 Q M x W g} (h : r.Ok) (h0 : 0 < g.bound.length) (hbn : g.bound.length ≤ 100000) :
    ∃ M' r', (r' : Rep M0 Q M' x W g.up).Ok ∧ Mod M M' W ∧ Ret Try.prog 54 [.pointer (some ⟨x, 0, none⟩)] M (.tuple ⟨[]⟩) M' := by
  have hA := h.at_
  obtain ⟨b, jk, hba, hb1, hb2⟩ : ∃ b jk, r.ba = some ⟨b, 0, none⟩ ∧ M0.length ≤ b ∧ M[b]? = some (.cells (strs g.bound ++ jk) 1 .live) := by
    rcases h.b.2.2 with ⟨_, e, _⟩ | ⟨b, jk, e, h4, h5, _⟩
    · omega
    · exact ⟨b, jk, e, h4, h5⟩
  have hbc : r.bc = capU := by
    rcases h.bU with e | e
    · rw [e] at hba; simp at hba
    · exact e
  have hsub : wrapF .i64 (Int.sub (Int.ofNat g.bound.length) (Int.ofNat 1)) = Int.ofNat (g.bound.length - 1) := sub64 (by omega) (by omega)
  have hsl : sliceA Try.prog M 53 (.slice r.ba g.bound.length r.bc) none (some (.int .i64 (wrapF .i64 (Int.sub (Int.ofNat g.bound.length) (Int.ofNat 1))))) none = some (.slice r.ba (g.bound.length - 1) r.bc) := by
    have e1 : elemT Try.prog 53 = some 9 := by kernel_rfl
    have e2 : sizeT Try.prog 9 = some 1 := by kernel_rfl
    have e3 : bnd none 0 = some 0 := rfl
    rw [hsub, hba, hbc]
    simp only [sliceA, e1, e2, Option.bind_some, e3, bnd_nat]
    rw [if_pos trivial, hb2]
    dsimp only
    rw [if_pos ⟨Nat.zero_le _, by omega, rfl⟩]
    simp
  have hxl := (List.getElem?_eq_some_iff.1 h.obj).1
  have hlen : g.up.bound.length = g.bound.length - 1 := by simp [GS.up]
  have hwr : wrCells M x 5 [.slice r.ba (g.bound.length - 1) r.bc] = some (M.set x (.cells (srcV g.up r.la r.lc r.na r.nc r.da r.dc r.fa r.fc r.ba r.bc) 6 .live)) := by
    rw [wrCells_at h.obj (by show 5 + 1 ≤ 6; omega) rfl]
    simp [srcV, GS.up, splice]
  have hm : Mod M (M.set x (.cells (srcV g.up r.la r.lc r.na r.nc r.da r.dc r.fa r.fc r.ba r.bc) 6 .live)) [x] := Mod.set M x _ (by simp)
  have hk : Keep M0 (M.set x (.cells (srcV g.up r.la r.lc r.na r.nc r.da r.dc r.fa r.fc r.ba r.bc) 6 .live)) := h.n.1.set h.hx _
  have hbx : b ≠ x := h.notx b (.inr (.inr (.inr (by rw [hba]; simp [blk]))))
  refine ⟨M.set x (.cells (srcV g.up r.la r.lc r.na r.nc r.da r.dc r.fa r.fc r.ba r.bc) 6 .live), ⟨r.la, r.lc, r.na, r.nc, r.da, r.dc, r.fa, r.fc, r.ba, r.bc, r.cs⟩, ⟨h.hx, ?_, ?_, h.lb, ?_, ?_, fun y hy => ⟨(h.q y hy).1, by rw [List.length_set]; exact (h.q y hy).2⟩, ?_, ?_, ?_, h.bU, h.w, h.nd⟩, Mod.set M x _ h.xW, ?_⟩
  · rw [List.getElem?_set]; simp [hxl]
  · exact h.l.mod hm (fun y hy => by have := h.lb y hy; have := h.hx; simp; omega)
  · exact h.n.mod hk hm (fun y hy => by simpa using h.notx y (.inl hy))
  · exact h.ns.mod hm (fun y hy => by simp at hy; subst hy; exact List.mem_append_left _ h.xW) (fun y hy => .inl hy)
  · exact h.d.mod hk hm (fun y hy => by simpa using h.notx y (.inr (.inl hy)))
  · exact h.f.mod hk hm (fun y hy => by simpa using h.notx y (.inr (.inr (.inl hy))))
  · have hne : g.bound ≠ [] := by intro e; rw [e] at h0; simp at h0
    refine ⟨hk, by simp [strs], .inr ⟨b, .string (g.bound.getLast hne) :: jk, hba, hb1, ?_, .inl hbc⟩⟩
    have hsp : strs g.bound ++ jk = strs g.up.bound ++ .string (g.bound.getLast hne) :: jk := by
      have := List.dropLast_concat_getLast hne
      conv => lhs; rw [← this]
      simp [strs, GS.up]
    rw [List.getElem?_set_ne (fun e => hbx e.symm), hb2, hsp]
  · exact Ret.wpToH hP (w54 (p0 := x) (M := M) ⟨_, _, _, hA.rd k53 rfl, _, _, _, hA.rd k53 rfl, _, _, _, hsl, _, hwr, trivial, rfl, rfl⟩)

end Go.Proofs.YtabkcbaknjenmaaAM

/-
  THE NODE LAWS: the trees that are drawn: what is right of them, as they grow.
-/
set_option linter.unusedVariables false
set_option linter.unusedSimpArgs false
namespace Go.Proofs.YtabkcbaknjenmaaAM
open Go Go.Proofs
set_option maxRecDepth 100000
set_option maxHeartbeats 4000000

/-- All names that there can be. -/
def namesG : List ByteArray := bindersG ++ [tx [110, 111, 98, 111, 100, 121], tx [109, 97, 105, 110], tx [111, 116, 104, 101, 114], tx [102, 49], tx [103, 49]]
theorem names_ok : ∀ b ∈ namesG, bindable b = true ∧ b.size ≤ 20 := by
  have h : namesG.all (fun b => bindable b && decide (b.size ≤ 20)) = true := by decide +kernel
  intro b hb
  have := List.all_eq_true.1 h b hb
  simpa using this

/-- The kids of a node end where it begins: each begins where the last one ended. -/
def Fits (ns : List GN) (H : Nat) (P : Nat → Nat → Prop) : Nat → Nat → List Nat → Nat → Prop
  | fr, _, [], to => fr = to
  | fr, j, k :: ks, to => ∃ n, ns[k]? = some n ∧ k + 1 = fr + n.size ∧ 1 ≤ n.size ∧ P j n.kind ∧ n.ht ≤ H ∧ Fits ns H P (k + 1) (j + 1) ks to
theorem Fits.app {ns : List GN} {H : Nat} {P : Nat → Nat → Prop} (m : List GN) : ∀ {ks : List Nat} {fr j to : Nat}, Fits ns H P fr j ks to → Fits (ns ++ m) H P fr j ks to
  | [], _, _, _, h => h
  | k :: ks, fr, j, to, ⟨n, h1, h2, h3, h4, h5, h6⟩ => ⟨n, by rw [List.getElem?_append_left (List.getElem?_eq_some_iff.1 h1).1]; exact h1, h2, h3, h4, h5, h6.app m⟩
theorem Fits.snoc {ns : List GN} {H : Nat} {P : Nat → Nat → Prop} {k : Nat} {n : GN} (h1 : ns[k]? = some n) : ∀ {ks : List Nat} {fr j to : Nat}, Fits ns H P fr j ks to → k + 1 = to + n.size → 1 ≤ n.size → P (j + ks.length) n.kind → n.ht ≤ H → Fits ns H P fr j (ks ++ [k]) (k + 1)
  | [], fr, j, to, h, h2, h3, h4, h5 => by
    have h : fr = to := h
    subst h
    exact ⟨n, h1, h2, h3, h4, h5, rfl⟩
  | k' :: ks, fr, j, to, ⟨n', g1, g2, g3, g4, g5, g6⟩, h2, h3, h4, h5 => ⟨n', g1, g2, g3, g4, g5, g6.snoc h1 h2 h3 (by rw [show j + 1 + ks.length = j + (k' :: ks).length by simp; omega]; exact h4) h5⟩
theorem Fits.mono {ns : List GN} {H H' : Nat} {P P' : Nat → Nat → Prop} (hH : H ≤ H') (hP : ∀ j k, P j k → P' j k) : ∀ {ks : List Nat} {fr j to : Nat}, Fits ns H P fr j ks to → Fits ns H' P' fr j ks to
  | [], _, _, _, h => h
  | k :: ks, fr, j, to, ⟨n, h1, h2, h3, h4, h5, h6⟩ => ⟨n, h1, h2, h3, hP _ _ h4, Nat.le_trans h5 hH, h6.mono hH hP⟩

/-- What a kid at j must be of: its kind. -/
def kidP (kind : Nat) (ss : List Int) (j kk : Nat) : Prop := isS (Int.ofNat kk) (ss.getD j 9) = true ∧ (kind = 10 → j % 2 = 0 → kk = 1) ∧ (kind = 30 → j = 1 → kk = 16)
theorem kidP_of {kind : Nat} {ss : List Int} {j kk : Nat} (h : isS (Int.ofNat kk) (ss.getD j 9) = true) (h1 : kind ≠ 10) (h2 : kind ≠ 30) : kidP kind ss j kk := ⟨h, fun e => absurd e h1, fun e => absurd e h2⟩

structure OkN (ns : List GN) (i : Nat) (n : GN) : Prop where
  sz : 1 ≤ n.size ∧ n.size ≤ i + 1
  h : 1 ≤ n.ht
  ks : ∃ ss, kidsS (Int.ofNat n.kind) n.name n.arg n.kids.length = some ss ∧ Fits ns (n.ht - 1) (kidP n.kind ss) (i + 1 - n.size) 0 n.kids i
  short : n.name.size ≤ 100 ∧ n.arg.size ≤ 100 ∧ n.kids.length ≤ 200
  kind : n.kind < 36
structure GInv (g : GS) : Prop where
  ns : ∀ i n, g.ns[i]? = some n → OkN g.ns i n
  bd : ∀ b ∈ g.bound, b ∈ namesG
  nm : ∀ b ∈ g.names, b ∈ namesG
  l : g.l.length ≤ 1000
  nl : g.names.length ≤ 1000

/-- One more node has been drawn, and all that it has. -/
structure Made (S : Nat → Prop) (H k : Nat) (g g' : GS) : Prop where
  inv : GInv g'
  bd : g'.bound = g.bound
  new : ∃ new e, g'.ns = g.ns ++ (new ++ [e]) ∧ S e.kind ∧ e.size = new.length + 1 ∧ e.ht ≤ H ∧ new.length + 1 ≤ k
theorem Made.mono {S S' : Nat → Prop} {H H' k k' : Nat} {g g' : GS} (h : Made S H k g g') (hS : ∀ i, S i → S' i) (hH : H ≤ H') (hk : k ≤ k') : Made S' H' k' g g' := by
  obtain ⟨h1, h2, new, e, h3, h4, h5, h6, h7⟩ := h
  exact ⟨h1, h2, new, e, h3, hS _ h4, h5, Nat.le_trans h6 hH, Nat.le_trans h7 hk⟩
theorem Made.base {S : Nat → Prop} {H k : Nat} {g0 g g' : GS} (h : Made S H k g0 g') (h1 : g0.ns = g.ns) (h2 : g0.bound = g.bound) : Made S H k g g' := by
  obtain ⟨a, b, c⟩ := h
  rw [h1] at c; rw [h2] at b
  exact ⟨a, b, c⟩
theorem Made.len {S : Nat → Prop} {H k : Nat} {g g' : GS} (h : Made S H k g g') : g'.ns.length ≤ g.ns.length + k ∧ g.ns.length < g'.ns.length := by
  obtain ⟨h1, h2, new, e, h3, h4, h5, h6, h7⟩ := h
  rw [h3]; simp; omega

/-- The kids of the node that is to come. -/
structure Kidz (P : Nat → Nat → Prop) (H k : Nat) (g g' : GS) (kids : List Nat) : Prop where
  inv : GInv g'
  new : ∃ new, g'.ns = g.ns ++ new ∧ new.length ≤ k
  fits : Fits g'.ns H P g.ns.length 0 kids g'.ns.length
theorem Kidz.nil (P : Nat → Nat → Prop) (H : Nat) {g : GS} (h : GInv g) : Kidz P H 0 g g [] := ⟨h, ⟨[], by simp⟩, rfl⟩
theorem Kidz.len {P : Nat → Nat → Prop} {H k : Nat} {g g' : GS} {kids : List Nat} (h : Kidz P H k g g' kids) : g'.ns.length ≤ g.ns.length + k ∧ g.ns.length ≤ g'.ns.length := by
  obtain ⟨h1, ⟨new, h2, h3⟩, h4⟩ := h
  rw [h2]; simp; omega
theorem Kidz.turn {P : Nat → Nat → Prop} {H k : Nat} {g g1 g2 : GS} {kids : List Nat} (h : Kidz P H k g g1 kids) (e : g2.ns = g1.ns) (hi : GInv g2) : Kidz P H k g g2 kids := by
  obtain ⟨a, b, c⟩ := h
  rw [← e] at b c
  exact ⟨hi, b, c⟩
theorem Kidz.snoc {P : Nat → Nat → Prop} {H k : Nat} {g g1 g2 : GS} {kids : List Nat} (h : Kidz P H k g g1 kids) {S : Nat → Prop} {H' k' : Nat} (m : Made S H' k' g1 g2) (hH : H' ≤ H) (hP : ∀ kk, S kk → P kids.length kk) :
    Kidz P H (k + k') g g2 (kids ++ [g2.ns.length - 1]) := by
  obtain ⟨h1, ⟨new, h2, h3⟩, h4⟩ := h
  obtain ⟨m1, m2, new', e, m3, m4, m5, m6, m7⟩ := m
  have hl : g2.ns.length = g1.ns.length + (new'.length + 1) := by rw [m3]; simp
  have he : g2.ns[g2.ns.length - 1]? = some e := by
    rw [hl, m3, ← List.append_assoc, List.getElem?_append_right (by simp)]
    simp
  refine ⟨m1, ⟨new ++ (new' ++ [e]), by rw [m3, h2, List.append_assoc], by simp; omega⟩, ?_⟩
  have hf : Fits g2.ns H P g.ns.length 0 kids g1.ns.length := by rw [m3]; exact h4.app _
  have := hf.snoc he (by omega) (by omega) (by rw [Nat.zero_add]; exact hP _ m4) (Nat.le_trans m6 hH)
  rwa [show g2.ns.length - 1 + 1 = g2.ns.length by omega] at this

theorem GInv.add {g : GS} (h : GInv g) {e : GN} (he : OkN g.ns g.ns.length e) : GInv (g.add e) := by
  obtain ⟨h1, h2, h3, h4, h5⟩ := h
  refine ⟨fun i n hi => ?_, h2, h3, h4, h5⟩
  have mono : ∀ {i n}, OkN g.ns i n → OkN (g.ns ++ [e]) i n := fun ⟨a, b, ⟨ss, c, d⟩, f, q⟩ => ⟨a, b, ⟨ss, c, d.app _⟩, f, q⟩
  simp only [GS.add] at hi ⊢
  rw [List.getElem?_append] at hi
  split at hi
  · exact mono (h1 i n hi)
  · rename_i hlt
    have : i = g.ns.length := by
      have := (List.getElem?_eq_some_iff.1 hi).1
      simp at this; omega
    subst this
    simp at hi
    subst hi
    exact mono he
/-- The node itself. -/
theorem Kidz.made {kind : Nat} {ss : List Int} {H k : Nat} {g g1 : GS} {kids : List Nat} (h : Kidz (kidP kind ss) H k g g1 kids) {nm ar : ByteArray} (hs : kidsS (Int.ofNat kind) nm ar kids.length = some ss) (hk : kind < 36) (h1 : nm.size ≤ 100) (h2 : ar.size ≤ 100) (h3 : kids.length ≤ 200)
    {S : Nat → Prop} (hS : S kind) (hb : g1.bound = g.bound) : Made S (H + 1) (k + 1) g (g1.add ⟨kind, nm, ar, kids, g1.ns.length - g.ns.length + 1, H + 1⟩) := by
  have hl := h.len
  obtain ⟨a, ⟨new, b1, b2⟩, c⟩ := h
  refine ⟨a.add ⟨by show 1 ≤ g1.ns.length - g.ns.length + 1 ∧ g1.ns.length - g.ns.length + 1 ≤ g1.ns.length + 1; omega, by show 1 ≤ H + 1; omega, ⟨ss, hs, ?_⟩, ⟨h1, h2, h3⟩, hk⟩, hb, new, _, by show g1.ns ++ _ = _; rw [b1, List.append_assoc], hS, ?_, Nat.le_refl _, by omega⟩
  · show Fits g1.ns (H + 1 - 1) (kidP kind ss) (g1.ns.length + 1 - (g1.ns.length - g.ns.length + 1)) 0 kids g1.ns.length
    rw [show H + 1 - 1 = H by omega, show g1.ns.length + 1 - (g1.ns.length - g.ns.length + 1) = g.ns.length by omega]
    exact c
  · show (g.ns ++ new).length - g.ns.length + 1 = new.length + 1
    simp
theorem leaf_made {kind : Nat} {nm ar : ByteArray} {g : GS} (hg : GInv g) (hs : kidsS (Int.ofNat kind) nm ar 0 = some []) (hk : kind < 36) (h1 : nm.size ≤ 100) (h2 : ar.size ≤ 100) {S : Nat → Prop} (hS : S kind) : Made S 1 1 g (g.add ⟨kind, nm, ar, [], 1, 1⟩) := by
  have := (Kidz.nil (kidP kind []) 0 hg).made (nm := nm) (ar := ar) hs hk h1 h2 (by simp) hS rfl
  simpa using this

theorem next_same (g : GS) (n : Nat) : (g.next n).2.l = g.l ∧ (g.next n).2.ns = g.ns ∧ (g.next n).2.names = g.names ∧ (g.next n).2.defs = g.defs ∧ (g.next n).2.bound = g.bound := by
  unfold GS.next
  split <;> exact ⟨rfl, rfl, rfl, rfl, rfl⟩
theorem GInv.same {g g' : GS} (h : GInv g) (e1 : g'.l = g.l) (e2 : g'.ns = g.ns) (e3 : g'.names = g.names) (e4 : g'.bound = g.bound) : GInv g' := by
  obtain ⟨a, b, c, d, f⟩ := h
  exact ⟨by rw [e2]; exact a, by rw [e4]; exact b, by rw [e3]; exact c, by rw [e1]; exact d, by rw [e3]; exact f⟩
theorem GInv.under {g : GS} (h : GInv g) {nm : ByteArray} (hn : nm ∈ namesG) : GInv (g.under nm) := by
  obtain ⟨a, b, c, d, f⟩ := h
  refine ⟨a, fun q hq => ?_, c, d, f⟩
  simp [GS.under] at hq
  rcases hq with hq | rfl
  · exact b q hq
  · exact hn
theorem GInv.up {g : GS} (h : GInv g) : GInv g.up := by
  obtain ⟨a, b, c, d, f⟩ := h
  exact ⟨a, fun q hq => b q (List.dropLast_subset _ hq), c, d, f⟩

/-- How the source stands behind something. -/
structure Run (M0 : Mem) (Q : List Nat) (x : Nat) (M : Mem) (W : List Nat) (M' : Mem) (W' : List Nat) (g g' : GS) : Prop where
  sim : ∃ r : Rep M0 Q M' x W' g', r.Ok
  mod : Mod M M' W
  sub : ∀ y ∈ W', y ∈ W ∨ M.length ≤ y
  l : g'.l = g.l
  nm : g'.names = g.names
  df : g'.defs = g.defs
theorem Run.trans {Q : List Nat} {M0 : Mem} {x : Nat} {M M1 M2 : Mem} {W W1 W2 : List Nat} {g g1 g2 : GS} (h : Run M0 Q x M W M1 W1 g g1) (k : Run M0 Q x M1 W1 M2 W2 g1 g2) : Run M0 Q x M W M2 W2 g g2 :=
  ⟨k.sim, h.mod.trans k.mod h.sub, fun y hy => by
    rcases k.sub y hy with a | a
    · exact h.sub y a
    · have := h.mod.1; right; omega, k.l.trans h.l, k.nm.trans h.nm, k.df.trans h.df⟩
theorem Run.refl {Q : List Nat} {M0 : Mem} {x : Nat} {M : Mem} {W : List Nat} {g : GS} {r : Rep M0 Q M x W g} (h : r.Ok) : Run M0 Q x M W M W g g := ⟨⟨r, h⟩, .refl _ _, fun y hy => .inl hy, rfl, rfl, rfl⟩
theorem Run.grow {Q : List Nat} {M0 : Mem} {x : Nat} {M : Mem} {W : List Nat} {g : GS} {r : Rep M0 Q M x W g} (h : r.Ok) (G : Mem) : Run M0 Q x M W (M ++ G) W g g := ⟨h.grow G, .app _ _ _, fun y hy => .inl hy, rfl, rfl, rfl⟩

def XB : Nat → Nat
  | 0 => 1
  | e + 1 => 3 * XB e + 4
theorem next_run {Q : List Nat} {M0 M : Mem} {x : Nat} {W : List Nat} {g : GS} {r : Rep M0 Q M x W g} (h : r.Ok) (hg : GInv g) {n : Nat} (hn : 0 < n) (hn2 : n < 1000) :
    ∃ M' k g', Ret Try.prog 31 [.pointer (some ⟨x, 0, none⟩), .int .i64 (Int.ofNat n)] M (.int .i64 (Int.ofNat k)) M' ∧ k < n ∧ Run M0 Q x M W M' W g g' ∧ GInv g' ∧ g'.ns = g.ns ∧ g'.bound = g.bound := by
  obtain ⟨M', r', h1, h2, h3⟩ := next_ret h hg.l hn hn2
  obtain ⟨e1, e2, e3, e4, e5⟩ := next_same g n
  exact ⟨M', _, _, h3, next_lt g hn, ⟨⟨r', h1⟩, h2, fun y hy => .inl hy, e1, e3, e4⟩, hg.same e1 e2 e3 e5, e2, e5⟩

end Go.Proofs.YtabkcbaknjenmaaAM

/-
  THE NODE LAWS: the trees that are drawn: data, names, nodes.
-/
set_option linter.unusedVariables false
set_option linter.unusedSimpArgs false
namespace Go.Proofs.YtabkcbaknjenmaaAM
open Go Go.Proofs
set_option maxRecDepth 100000
set_option maxHeartbeats 4000000

theorem quoN {a b : Nat} (hb : 0 < b) (hb2 : b < 1000000) (x y : Operand) : binA Try.prog .quo 3 x y (.int .i64 (Int.ofNat a)) (.int .i64 (Int.ofNat b)) = some (.int .i64 (wrapF .i64 (Int.ofNat (a / b)))) := by
  cases b with
  | zero => omega
  | succ b =>
    have h : binA Try.prog .quo 3 x y (.int .i64 (Int.ofNat a)) (.int .i64 (Int.ofNat (b + 1))) = some (.int .i64 (IntKind.wrap .i64 (Int.tdiv (Int.ofNat a) (Int.ofNat (b + 1))))) := by kernel_rfl
    rw [h, ← wrapF_eq]; rfl
theorem wrapN {n : Nat} (h : n < 9223372036854775808) : wrapF .i64 (Int.ofNat n) = Int.ofNat n := wrap64 (by show _ ≤ (n : Int); omega) (by show (n : Int) < _; omega)
theorem OwnJ.row {M M1 : Mem} {sz n c : Nat} {a : Option Addr} {l : List Value} (h : OwnJ M M1 sz a n c l) : Row M1 a l := by
  obtain ⟨h1, h2, h3⟩ := h
  rcases h3 with ⟨_, h3, _⟩ | ⟨b, jk, rfl, h4, h5, h6⟩
  · subst h3
    exact .inl (List.eq_nil_of_length_eq_zero (by omega))
  · refine .inr ⟨b, 0, rfl, fun k hk => ?_⟩
    have hA : At M1 b (l ++ jk) := ⟨sz, .live, by decide, h5⟩
    exact hA.cell (by rw [Nat.zero_add, List.getElem?_append_left hk]; exact List.getElem?_eq_getElem hk)

/-- What a method that draws a node answers. -/
def ResI (M0 : Mem) (Q : List Nat) (x : Nat) (M : Mem) (W : List Nat) (g : GS) (S : Nat → Prop) (H k : Nat) (i : Int) (M' : Mem) : Prop :=
  ∃ W' g', i = Int.ofNat (g'.ns.length - 1) ∧ Run M0 Q x M W M' W' g g' ∧ Made S H k g g'
theorem wp_res {Q : List Nat} {M0 : Mem} {x : Nat} {W : List Nat} {g : GS} {S : Nat → Prop} {H k : Nat} {f : FuncId} {ann : Ann} {args : List Value} {M : Mem} (h : Held (wpRet Try.prog f true ann args M (fun v M' => ∃ i, v = .int .i64 i ∧ ResI M0 Q x M W g S H k i M'))) :
    ∃ i M', Ret Try.prog f args M (.int .i64 i) M' ∧ ResI M0 Q x M W g S H k i M' := by
  obtain ⟨v, M', h1, i, rfl, h2⟩ := Ret.wpH hP h
  exact ⟨i, M', h1, h2⟩
def DrawsI (f : FuncId) (S : Nat → Prop) (e : Nat) : Prop :=
  ∀ (M0 : Mem) (Q : List Nat) (x : Nat) (M : Mem) (W : List Nat) (g : GS) (r : Rep M0 Q M x W g), r.Ok → GInv g → g.ns.length + XB e ≤ 900000 → g.bound.length + e ≤ 1000 →
    ∃ i M', Ret Try.prog f [.pointer (some ⟨x, 0, none⟩), .int .i64 (Int.ofNat e - 1)] M (.int .i64 i) M' ∧ ResI M0 Q x M W g S (e + 2) (XB e) i M'
theorem dec (e : Nat) (he : e < 1000) : wrapF .i64 (Int.sub (Int.ofNat (e + 1) - 1) (Int.ofNat 1)) = Int.ofNat e - 1 := by
  have : Int.sub (Int.ofNat (e + 1) - 1) (Int.ofNat 1) = Int.ofNat e - 1 := by show ((e + 1 : Nat) : Int) - 1 - 1 = (e : Int) - 1; omega
  rw [this]
  exact wrap64 (by show _ ≤ (e : Int) - 1; omega) (by show (e : Int) - 1 < _; omega)

theorem add_run {Q : List Nat} {M0 M : Mem} {x : Nat} {W : List Nat} {g : GS} {r : Rep M0 Q M x W g} (h : r.Ok) (hns : g.ns.length ≤ 1000000) (e : GN) {a : Option Addr} {c : Nat} (hr : SliceR M 1 a e.kids.length c (ints (e.kids.map Int.ofNat))) (hb : ∀ y ∈ blk a, y ∉ W ∧ y ∉ Q ∧ y < M.length) :
    ∃ M' W', Run M0 Q x M W M' W' g (g.add e) ∧ Ret Try.prog 55 [.pointer (some ⟨x, 0, none⟩), .int .i64 (Int.ofNat e.kind), .string e.name, .string e.arg, .slice a e.kids.length c] M (.int .i64 (Int.ofNat g.ns.length)) M' := by
  obtain ⟨M', W', r', h1, h2, h3, h4⟩ := add_ret h hns e (c := c) hr hb
  exact ⟨M', W', ⟨⟨r', h1⟩, h2, h3, rfl, rfl, rfl⟩, h4⟩
/-- A node without kids. -/
theorem leaf_res {Q : List Nat} {M0 M M1 : Mem} {x : Nat} {W W1 : List Nat} {g g1 : GS} (R : Run M0 Q x M W M1 W1 g g1) (hi : GInv g1) (hns : g1.ns = g.ns) (hbd : g1.bound = g.bound) (hlen : g1.ns.length ≤ 1000000) {kind : Nat} {nm ar : ByteArray} (hs : kidsS (Int.ofNat kind) nm ar 0 = some []) (hk : kind < 36) (h1 : nm.size ≤ 100) (h2 : ar.size ≤ 100) {S : Nat → Prop} (hS : S kind) {H k : Nat} (hH : 1 ≤ H) (hkk : 1 ≤ k) :
    ∃ i M', Ret Try.prog 55 [.pointer (some ⟨x, 0, none⟩), .int .i64 (Int.ofNat kind), .string nm, .string ar, .slice none 0 0] M1 (.int .i64 i) M' ∧ ResI M0 Q x M W g S H k i M' := by
  obtain ⟨r1, hr1⟩ := R.sim
  obtain ⟨M', W', R', hr⟩ := add_run hr1 hlen ⟨kind, nm, ar, [], 1, 1⟩ (a := none) (c := 0) (.nil _ _) (by simp [blk])
  refine ⟨_, M', hr, W', _, ?_, R.trans R', ((leaf_made hi hs hk h1 h2 hS).base hns hbd).mono (fun _ h => h) hH hkk⟩
  simp [GS.add]
/-- A node with kids. -/
theorem node_res {Q : List Nat} {M0 M M1 : Mem} {x : Nat} {W W1 : List Nat} {g g1 : GS} (R : Run M0 Q x M W M1 W1 g g1) {kind : Nat} {ss : List Int} {H k : Nat} {kids : List Nat} (K : Kidz (kidP kind ss) H k g g1 kids) (hlen : g1.ns.length ≤ 1000000) {nm ar : ByteArray} (hs : kidsS (Int.ofNat kind) nm ar kids.length = some ss) (hk : kind < 36) (h1 : nm.size ≤ 100) (h2 : ar.size ≤ 100) (h3 : kids.length ≤ 200)
    {S : Nat → Prop} (hS : S kind) (hb : g1.bound = g.bound) {H' k' : Nat} (hH : H + 1 ≤ H') (hkk : k + 1 ≤ k') {cs : List Value} (hcs : cs = ints (kids.map Int.ofNat)) {n : Nat} (hn : kids.length = n) :
    ∃ i M', Ret Try.prog 55 [.pointer (some ⟨x, 0, none⟩), .int .i64 (Int.ofNat kind), .string nm, .string ar, .slice (some ⟨M1.length, 0, none⟩) n n] (M1 ++ [AObj.cells cs 1 .live]) (.int .i64 i) M' ∧ ResI M0 Q x M W g S H' k' i M' := by
  obtain ⟨r1, hr1⟩ := R.sim
  subst hn
  have R1 := Run.grow hr1 [AObj.cells cs 1 .live]
  obtain ⟨r2, hr2⟩ := R1.sim
  obtain ⟨M', W', R', hr⟩ := add_run hr2 hlen ⟨kind, nm, ar, kids, g1.ns.length - g.ns.length + 1, H + 1⟩ (a := some ⟨M1.length, 0, none⟩) (c := kids.length) (by rw [hcs]; exact .at_ (get_last _ _) (by decide) (by simp [ints]))
    (fun y hy => by
      simp [blk] at hy; subst hy
      exact ⟨fun hw => Nat.lt_irrefl _ (hr1.wlt _ hw), fun hq => Nat.lt_irrefl _ (hr1.q _ hq).2, by simp⟩)
  refine ⟨_, M', hr, W', _, ?_, (R.trans R1).trans R', (K.made hs hk h1 h2 h3 hS hb).mono (fun _ h => h) hH hkk⟩
  simp [GS.add]

theorem getD_mem {α : Type} {l : List α} {n : Nat} (h : n < l.length) (d : α) : l.getD n d ∈ l := by
  rw [List.getD_eq_getElem?_getD, List.getElem?_eq_getElem h]; exact List.getElem_mem h
theorem gtext_run {Q : List Nat} {M0 M : Mem} {x : Nat} {W : List Nat} {g : GS} {r : Rep M0 Q M x W g} (h : r.Ok) (hg : GInv g) :
    ∃ s M' g', Ret Try.prog 99 [.pointer (some ⟨x, 0, none⟩)] M (.string s) M' ∧ s ∈ textsG ∧ Run M0 Q x M W M' W g g' ∧ GInv g' ∧ g'.ns = g.ns ∧ g'.bound = g.bound := by
  obtain ⟨M', r', h1, h2, h3⟩ := text_ret h hg.l
  obtain ⟨e1, e2, e3, e4, e5⟩ := next_same g 7
  exact ⟨_, M', _, h3, getD_mem (next_lt g (by decide)) _, ⟨⟨r', h1⟩, h2, fun y hy => .inl hy, e1, e3, e4⟩, hg.same e1 e2 e3 e5, e2, e5⟩
theorem digits_run {Q : List Nat} {M0 M : Mem} {x : Nat} {W : List Nat} {g : GS} {r : Rep M0 Q M x W g} (h : r.Ok) (hg : GInv g) :
    ∃ s M' g', Ret Try.prog 100 [.pointer (some ⟨x, 0, none⟩)] M (.string s) M' ∧ s ∈ digitsG ∧ Run M0 Q x M W M' W g g' ∧ GInv g' ∧ g'.ns = g.ns ∧ g'.bound = g.bound := by
  obtain ⟨M', r', h1, h2, h3⟩ := digits_ret h hg.l
  obtain ⟨e1, e2, e3, e4, e5⟩ := next_same g 10
  exact ⟨_, M', _, h3, getD_mem (next_lt g (by decide)) _, ⟨⟨r', h1⟩, h2, fun y hy => .inl hy, e1, e3, e4⟩, hg.same e1 e2 e3 e5, e2, e5⟩
theorem binder_run {Q : List Nat} {M0 M : Mem} {x : Nat} {W : List Nat} {g : GS} {r : Rep M0 Q M x W g} (h : r.Ok) (hg : GInv g) :
    ∃ s M' g', Ret Try.prog 50 [.pointer (some ⟨x, 0, none⟩)] M (.string s) M' ∧ s ∈ namesG ∧ Run M0 Q x M W M' W g g' ∧ GInv g' ∧ g'.ns = g.ns ∧ g'.bound = g.bound := by
  obtain ⟨M', r', h1, h2, h3⟩ := binder_ret h hg.l
  obtain ⟨e1, e2, e3, e4, e5⟩ := next_same g 6
  have hlt : (g.next 6).1 < 6 := next_lt g (by decide)
  have hm : g.binder.1 ∈ bindersG := getD_mem (l := bindersG) (n := (g.next 6).1) (by show _ < 7; omega) _
  exact ⟨_, M', _, h3, List.mem_append_left _ hm, ⟨⟨r', h1⟩, h2, fun y hy => .inl hy, e1, e3, e4⟩, hg.same e1 e2 e3 e5, e2, e5⟩
theorem under_run {Q : List Nat} {M0 M : Mem} {x : Nat} {W : List Nat} {g : GS} {r : Rep M0 Q M x W g} (h : r.Ok) (hg : GInv g) (hbn : g.bound.length ≤ 100000) {nm : ByteArray} (hn : nm ∈ namesG) :
    ∃ M' W', Ret Try.prog 52 [.pointer (some ⟨x, 0, none⟩), .string nm] M undef M' ∧ Run M0 Q x M W M' W' g (g.under nm) ∧ GInv (g.under nm) := by
  obtain ⟨M', W', r', h1, h2, h3, h4⟩ := under_ret h hbn nm
  exact ⟨M', W', h4, ⟨⟨r', h1⟩, h2, h3, rfl, rfl, rfl⟩, hg.under hn⟩
theorem up_run {Q : List Nat} {M0 M : Mem} {x : Nat} {W : List Nat} {g : GS} {r : Rep M0 Q M x W g} (h : r.Ok) (hg : GInv g) (h0 : 0 < g.bound.length) (hbn : g.bound.length ≤ 100000) :
    ∃ M', Ret Try.prog 54 [.pointer (some ⟨x, 0, none⟩)] M undef M' ∧ Run M0 Q x M W M' W g g.up ∧ GInv g.up := by
  obtain ⟨M', r', h1, h2, h4⟩ := up_ret h h0 hbn
  exact ⟨M', h4, ⟨⟨r', h1⟩, h2, fun y hy => .inl hy, rfl, rfl, rfl⟩, hg.up⟩

theorem digits_num : ∀ s ∈ digitsG, kidsS (Int.ofNat 0) s noText 0 = some [] ∧ kidsS (Int.ofNat 35) s noText 1 = some [5] ∧ s.size ≤ 100 := by
  have h : digitsG.all (fun s => (kidsS (Int.ofNat 0) s noText 0 == some []) && (kidsS (Int.ofNat 35) s noText 1 == some [5]) && decide (s.size ≤ 100)) = true := by decide +kernel
  intro b hb
  have := List.all_eq_true.1 h b hb
  simpa [and_assoc] using this
theorem texts_str : ∀ s ∈ textsG, kidsS (Int.ofNat 1) s noText 0 = some [] ∧ s.size ≤ 100 := by
  have h : textsG.all (fun s => (kidsS (Int.ofNat 1) s noText 0 == some []) && decide (s.size ≤ 100)) = true := by decide +kernel
  intro b hb
  have := List.all_eq_true.1 h b hb
  simpa [and_assoc] using this
theorem names_var : ∀ s ∈ namesG, kidsS (Int.ofNat 5) s noText 0 = some [] ∧ s.size ≤ 100 := by
  have h : namesG.all (fun s => (kidsS (Int.ofNat 5) s noText 0 == some []) && decide (s.size ≤ 100)) = true := by decide +kernel
  intro b hb
  have := List.all_eq_true.1 h b hb
  simpa [and_assoc] using this

theorem data_res {Q : List Nat} {M0 M : Mem} {x : Nat} {W : List Nat} {g : GS} {r : Rep M0 Q M x W g} (h : r.Ok) (hg : GInv g) (hns : g.ns.length ≤ 1000000) :
    ∃ i M', Ret Try.prog 80 [.pointer (some ⟨x, 0, none⟩)] M (.int .i64 i) M' ∧ ResI M0 Q x M W g (fun kk => kk ≤ 4) 1 1 i M' := by
  refine wp_res (w80 (p0 := x) (M := M) ?_)
  obtain ⟨M1, k, g1, h1, hk, R1, i1, e1, b1⟩ := next_run h hg (n := 6) (by decide) (by decide)
  have hns1 : g1.ns.length ≤ 1000000 := by rw [e1]; exact hns
  obtain ⟨r1, hr1⟩ := R1.sim
  refine ⟨_, _, h1, cnd_of (fun _ => ?_) fun _ => cnd_of (fun _ => ?_) fun _ => cnd_of (fun _ => ?_) fun _ => cnd_of (fun _ => ?_) fun _ => ?_⟩
  · obtain ⟨i, M2, h2, R2⟩ := leaf_res R1 i1 e1 b1 hns1 (kind := 2) (nm := noText) (ar := noText) (by decide +kernel) (by decide) (by decide) (by decide) (S := fun kk => kk ≤ 4) (H := 1) (k := 1) (by decide) (by decide) (by decide)
    exact ⟨_, _, h2, _, rfl, R2⟩
  · obtain ⟨i, M2, h2, R2⟩ := leaf_res R1 i1 e1 b1 hns1 (kind := 3) (nm := noText) (ar := noText) (by decide +kernel) (by decide) (by decide) (by decide) (S := fun kk => kk ≤ 4) (H := 1) (k := 1) (by decide) (by decide) (by decide)
    exact ⟨_, _, h2, _, rfl, R2⟩
  · obtain ⟨i, M2, h2, R2⟩ := leaf_res R1 i1 e1 b1 hns1 (kind := 4) (nm := noText) (ar := noText) (by decide +kernel) (by decide) (by decide) (by decide) (S := fun kk => kk ≤ 4) (H := 1) (k := 1) (by decide) (by decide) (by decide)
    exact ⟨_, _, h2, _, rfl, R2⟩
  · obtain ⟨s, M2, g2, h2, hs, R2, i2, e2, b2⟩ := gtext_run hr1 i1
    obtain ⟨hs1, hs2⟩ := texts_str s hs
    obtain ⟨i, M3, h3, R3⟩ := leaf_res (R1.trans R2) i2 (e2.trans e1) (b2.trans b1) (by rw [e2]; exact hns1) (kind := 1) (nm := s) (ar := noText) hs1 (by decide) hs2 (by decide) (S := fun kk => kk ≤ 4) (H := 1) (k := 1) (by decide) (by decide) (by decide)
    exact ⟨_, _, h2, _, _, h3, _, rfl, R3⟩
  · obtain ⟨s, M2, g2, h2, hs, R2, i2, e2, b2⟩ := digits_run hr1 i1
    obtain ⟨hs1, _, hs2⟩ := digits_num s hs
    obtain ⟨i, M3, h3, R3⟩ := leaf_res (R1.trans R2) i2 (e2.trans e1) (b2.trans b1) (by rw [e2]; exact hns1) (kind := 0) (nm := s) (ar := noText) hs1 (by decide) hs2 (by decide) (S := fun kk => kk ≤ 4) (H := 1) (k := 1) (by decide) (by decide) (by decide)
    exact ⟨_, _, h2, _, _, h3, _, rfl, R3⟩

theorem name_run {Q : List Nat} {M0 M : Mem} {x : Nat} {W : List Nat} {g : GS} {r : Rep M0 Q M x W g} (h : r.Ok) (hg : GInv g) (hb : g.bound.length ≤ 1000) (b : Bool) :
    ∃ s M' g', Ret Try.prog 81 [.pointer (some ⟨x, 0, none⟩), .bool b] M (.string s) M' ∧ s ∈ namesG ∧ Run M0 Q x M W M' W g g' ∧ GInv g' ∧ g'.ns = g.ns ∧ g'.bound = g.bound := by
  obtain ⟨M1, k, g1, h1, hk, R1, i1, e1, b1⟩ := next_run h hg (n := 40) (by decide) (by decide)
  obtain ⟨r1, hr1⟩ := R1.sim
  have hA := hr1.at_
  have hb1 : g1.bound.length ≤ 1000 := by rw [b1]; exact hb
  have hn1 := i1.nl
  suffices hh : ∃ v M', Ret Try.prog 81 [.pointer (some ⟨x, 0, none⟩), .bool b] M v M' ∧ ((∃ s, v = .string s ∧ s ∈ namesG) ∧ M' = M1) by
    obtain ⟨v, M', q1, ⟨s, rfl, q2⟩, rfl⟩ := hh
    exact ⟨s, _, g1, q1, q2, R1, i1, e1, b1⟩
  refine Ret.wpH hP (K := fun v M' => (∃ s, v = .string s ∧ s ∈ namesG) ∧ M' = M1) (w81 (p0 := x) (p1 := b) (M := M) ⟨_, _, h1, cnd_of (fun _ => ⟨⟨_, rfl, by simp [namesG, bindersG, tx]⟩, rfl⟩) fun _ =>
    cnd_of (fun _ => ⟨_, remN (by decide) (by decide) _ _, cnd_of (fun _ => ⟨_, _, _, hA.rd k53 rfl, cnd_of (fun e => ⟨_, _, _, hA.rd k53 rfl, _, quoN (by decide) (by decide) _ _, _, _, _, hA.rd k53 rfl, ?names⟩) (fun _ => ⟨_, _, _, hA.rd k53 rfl, ?bound⟩)⟩) (fun _ => ⟨_, _, _, hA.rd k53 rfl, ?bound2⟩)⟩)
      (fun _ => ⟨_, _, _, hA.rd k53 rfl, ?bound3⟩)⟩)
  case names =>
    have hpos : 0 < g1.names.length := by
      have : leF (Int.ofNat g1.names.length) (Int.ofNat 0) = false := by simpa using e
      rw [leF_f] at this; exact Int.ofNat_lt.1 this
    have hlt : k / 4 % g1.names.length < g1.names.length := Nat.mod_lt _ hpos
    rw [wrapN (by omega)]
    obtain ⟨y, o, q1, q2⟩ := strs_at hr1.f.row hlt (c := r1.fc) rfl
    exact ⟨_, remN hpos (by omega) _ _, y, o, q1, _, q2, trivial, ⟨_, rfl, i1.nm _ (List.getElem_mem hlt)⟩, rfl⟩
  all_goals
    refine cnd_of (fun _ => ⟨⟨_, rfl, by simp [namesG, bindersG, tx]⟩, rfl⟩) fun e => ⟨_, _, _, hA.rd k53 rfl, _, _, _, hA.rd k53 rfl, _, _, _, hA.rd k53 rfl, ?_⟩
    have hpos : 0 < g1.bound.length := by
      rw [eqF_f] at e
      rcases Nat.eq_zero_or_pos g1.bound.length with h0 | h0
      · exact absurd (by rw [h0]) e
      · exact h0
    have hlt : k % g1.bound.length < g1.bound.length := Nat.mod_lt _ hpos
    have hlt2 : g1.bound.length - 1 - k % g1.bound.length < g1.bound.length := by omega
    obtain ⟨y, o, q1, q2⟩ := strs_at hr1.b.row hlt2 (c := r1.bc) (i := wrapF .i64 (Int.sub (wrapF .i64 (Int.sub (Int.ofNat g1.bound.length) (Int.ofNat 1))) (Int.ofNat (k % g1.bound.length)))) (by rw [sub64 (by omega) (by omega), sub64 (by omega) (by omega)])
    exact ⟨_, remN hpos (by omega) _ _, y, o, q1, _, q2, trivial, ⟨_, rfl, i1.bd _ (List.getElem_mem hlt2)⟩, rfl⟩

end Go.Proofs.YtabkcbaknjenmaaAM

/-
  THE NODE LAWS: the trees that are drawn: terms, numbers.
-/
set_option linter.unusedVariables false
set_option linter.unusedSimpArgs false
namespace Go.Proofs.YtabkcbaknjenmaaAM
open Go Go.Proofs
set_option maxRecDepth 100000
set_option maxHeartbeats 4000000

theorem Fits.conv {ns : List GN} {H : Nat} {P P' : Nat → Nat → Prop} : ∀ {ks : List Nat} {fr j to : Nat}, (∀ j', j ≤ j' → j' < j + ks.length → ∀ k, P j' k → P' j' k) → Fits ns H P fr j ks to → Fits ns H P' fr j ks to
  | [], _, _, _, _, h => h
  | k :: ks, fr, j, to, hP, ⟨n, h1, h2, h3, h4, h5, h6⟩ => ⟨n, h1, h2, h3, hP j (Nat.le_refl _) (by simp) _ h4, h5, h6.conv fun j' a b => hP j' (by omega) (by simp at b ⊢; omega)⟩
theorem Kidz.conv {P P' : Nat → Nat → Prop} {H k : Nat} {g g' : GS} {kids : List Nat} (h : Kidz P H k g g' kids) (hP : ∀ j, j < kids.length → ∀ kk, P j kk → P' j kk) : Kidz P' H k g g' kids :=
  ⟨h.inv, h.new, h.fits.conv fun j' _ b => hP j' (by omega)⟩
theorem Kidz.base {P : Nat → Nat → Prop} {H k : Nat} {g0 g g' : GS} {kids : List Nat} (h : Kidz P H k g0 g' kids) (e : g0.ns = g.ns) : Kidz P H k g g' kids := by
  obtain ⟨a, b, c⟩ := h
  rw [e] at b c
  exact ⟨a, b, c⟩
theorem Kidz.weak {P : Nat → Nat → Prop} {H k k' : Nat} {g g' : GS} {kids : List Nat} (h : Kidz P H k g g' kids) (hk : k ≤ k') : Kidz P H k' g g' kids := by
  obtain ⟨a, ⟨new, b1, b2⟩, c⟩ := h
  exact ⟨a, ⟨new, b1, by omega⟩, c⟩
theorem kidP_rep {kind m j kk : Nat} {s : Int} (hj : j < m) (h : isS (Int.ofNat kk) s = true) (h1 : kind ≠ 10) (h2 : kind ≠ 30) : kidP kind (List.replicate m s) j kk :=
  kidP_of (by rw [List.getD_eq_getElem?_getD, List.getElem?_replicate_of_lt hj]; exact h) h1 h2
theorem ResI.base {Q : List Nat} {M0 M M1 : Mem} {x : Nat} {W W1 : List Nat} {g g1 : GS} {S : Nat → Prop} {H k : Nat} {i : Int} {M' : Mem} (h : ResI M0 Q x M1 W1 g1 S H k i M') (R : Run M0 Q x M W M1 W1 g g1) (e : g1.ns = g.ns) (b : g1.bound = g.bound) : ResI M0 Q x M W g S H k i M' := by
  obtain ⟨W', g', h1, h2, h3⟩ := h
  exact ⟨W', g', h1, R.trans h2, h3.base e b⟩
theorem ResI.mono {Q : List Nat} {M0 M : Mem} {x : Nat} {W : List Nat} {g : GS} {S S' : Nat → Prop} {H H' k k' : Nat} {i : Int} {M' : Mem} (h : ResI M0 Q x M W g S H k i M') (hS : ∀ i, S i → S' i) (hH : H ≤ H') (hk : k ≤ k') : ResI M0 Q x M W g S' H' k' i M' := by
  obtain ⟨W', g', h1, h2, h3⟩ := h
  exact ⟨W', g', h1, h2, h3.mono hS hH hk⟩
/-- One more kid, by a method. -/
theorem DrawsI.step {Q : List Nat} {f : FuncId} {S : Nat → Prop} {e : Nat} (hd : DrawsI f S e) {M0 M M1 : Mem} {x : Nat} {W W1 : List Nat} {g g1 : GS} (R : Run M0 Q x M W M1 W1 g g1) {P : Nat → Nat → Prop} {H k : Nat} {ks : List Nat} (K : Kidz P H k g g1 ks) (hH : e + 2 ≤ H)
    (hP : ∀ kk, S kk → P ks.length kk) (hlen : g.ns.length + k + XB e ≤ 900000) (hbn : g1.bound.length + e ≤ 1000) :
    ∃ j M2 W2 g2, Ret Try.prog f [.pointer (some ⟨x, 0, none⟩), .int .i64 (Int.ofNat e - 1)] M1 (.int .i64 (Int.ofNat j)) M2 ∧ Run M0 Q x M W M2 W2 g g2 ∧ Kidz P H (k + XB e) g g2 (ks ++ [j]) ∧ g2.bound = g1.bound ∧ (Run M0 Q x M1 W1 M2 W2 g1 g2) := by
  obtain ⟨r1, hr1⟩ := R.sim
  have := K.len
  obtain ⟨i, M2, h1, W2, g2, rfl, R2, m2⟩ := hd M0 Q x M1 W1 g1 r1 hr1 K.inv (by omega) hbn
  exact ⟨_, M2, W2, g2, h1, R.trans R2, K.snoc m2 hH hP, m2.bd, R2⟩

abbrev termK (kk : Nat) : Prop := termS (Int.ofNat kk) = true
theorem termK_isS {kk : Nat} (h : termK kk) : isS (Int.ofNat kk) 4 = true := h
theorem termK_data {kk : Nat} (h : kk ≤ 4) : termK kk := by
  unfold termK termS
  rw [Bool.or_eq_true, betw_t]
  exact .inl (by constructor; exact Int.natCast_nonneg kk; show (kk : Int) ≤ 5; omega)
theorem XB_pos : ∀ e, 1 ≤ XB e
  | 0 => Nat.le_refl _
  | e + 1 => by show 1 ≤ 3 * XB e + 4; omega
theorem full_low {g : GS} {d : Int} (h : d ≤ 0) : g.full d = true := by simp [GS.full, h]

theorem leafT_res {Q : List Nat} {M0 M M1 : Mem} {x : Nat} {W W1 : List Nat} {g g1 : GS} (R : Run M0 Q x M W M1 W1 g g1) (hi : GInv g1) (hns : g1.ns = g.ns) (hbd : g1.bound = g.bound) (hlen : g1.ns.length ≤ 1000000) (hbn : g1.bound.length ≤ 1000) (b : Bool) {S : Nat → Prop} (hS : S 5) {H k : Nat} (hH : 1 ≤ H) (hkk : 1 ≤ k) :
    ∃ s M2, Ret Try.prog 81 [.pointer (some ⟨x, 0, none⟩), .bool b] M1 (.string s) M2 ∧ ∃ i M3, Ret Try.prog 55 [.pointer (some ⟨x, 0, none⟩), .int .i64 (Int.ofNat 5), .string s, .string noText, .slice none 0 0] M2 (.int .i64 i) M3 ∧ ResI M0 Q x M W g S H k i M3 := by
  obtain ⟨r1, hr1⟩ := R.sim
  obtain ⟨s, M2, g2, h2, hs, R2, i2, e2, b2⟩ := name_run hr1 hi hbn b
  obtain ⟨hs1, hs2⟩ := names_var s hs
  obtain ⟨i, M3, h3, R3⟩ := leaf_res (R.trans R2) i2 (e2.trans hns) (b2.trans hbd) (by rw [e2]; exact hlen) (kind := 5) (nm := s) (ar := noText) hs1 (by decide) hs2 (by decide) hS hH hkk
  exact ⟨s, M2, h2, i, M3, h3, R3⟩

theorem term_draws : ∀ e, e ≤ 20 → DrawsI 97 termK e := by
  intro e
  induction e with
  | zero =>
    intro he M0 Q x M W g r h hg hlen hbn
    refine wp_res (w97 (p0 := x) (p1 := Int.ofNat 0 - 1) (M := M) ?_)
    obtain ⟨M1, k, g1, h1, hk, R1, i1, e1, b1⟩ := next_run h hg (n := 12) (by decide) (by decide)
    obtain ⟨r1, hr1⟩ := R1.sim
    have hfull := full_ret hr1 (Int.ofNat 0 - 1)
    rw [full_low (by decide)] at hfull
    refine ⟨_, _, h1, _, _, hfull, cnd_t ⟨_, remN (by decide) (by decide) _ _, cnd_of (fun _ => ?_) (fun _ => ?_)⟩⟩
    · obtain ⟨i, M2, h2, R2⟩ := data_res hr1 i1 (by rw [e1]; omega)
      exact ⟨_, _, h2, _, rfl, (R2.base R1 e1 b1).mono (fun _ => termK_data) (by decide) (by decide)⟩
    · obtain ⟨s, M2, h2, i, M3, h3, R3⟩ := leafT_res R1 i1 e1 b1 (by rw [e1]; omega) (by rw [b1]; omega) false (S := termK) (by decide) (H := 0 + 2) (k := XB 0) (by decide) (by decide)
      exact ⟨_, _, h2, _, _, h3, _, rfl, R3⟩
  | succ e ih =>
    intro he M0 Q x M W g r h hg hlen hbn
    have ih := ih (by omega)
    refine wp_res (w97 (p0 := x) (p1 := Int.ofNat (e + 1) - 1) (M := M) ?_)
    rw [dec e (by omega)]
    obtain ⟨M1, k, g1, h1, hk, R1, i1, e1, b1⟩ := next_run h hg (n := 12) (by decide) (by decide)
    obtain ⟨r1, hr1⟩ := R1.sim
    have hX : XB (e + 1) = 3 * XB e + 4 := rfl
    refine ⟨_, _, h1, _, _, full_ret hr1 _, cnd_of (fun _ => ⟨_, remN (by decide) (by decide) _ _, cnd_of (fun _ => ?data) (fun _ => ?leaf)⟩) (fun _ => cnd_of (fun _ => ⟨_, remN (by decide) (by decide) _ _, cnd_of (fun _ => ?data2) (fun _ => ?leaf2)⟩) (fun _ => ?node))⟩
    case data | data2 =>
      obtain ⟨i, M2, h2, R2⟩ := data_res hr1 i1 (by rw [e1]; omega)
      exact ⟨_, _, h2, _, rfl, (R2.base R1 e1 b1).mono (fun _ => termK_data) (by omega) (by omega)⟩
    case leaf | leaf2 =>
      obtain ⟨s, M2, h2, i, M3, h3, R3⟩ := leafT_res R1 i1 e1 b1 (by rw [e1]; omega) (by rw [b1]; omega) false (S := termK) (by decide) (H := e + 1 + 2) (k := XB (e + 1)) (by omega) (by omega)
      exact ⟨_, _, h2, _, _, h3, _, rfl, R3⟩
    case node =>
      have K1 := (Kidz.nil (fun _ kk => termK kk) (e + 2) i1).base e1
      obtain ⟨a, M2, W2, g2, h2, R2, K2, b2, _⟩ := ih.step R1 K1 (Nat.le_refl _) (fun _ h => h) (by omega) (by rw [b1]; omega)
      obtain ⟨b, M3, W3, g3, h3, R3, K3, b3, _⟩ := ih.step R2 K2 (Nat.le_refl _) (fun _ h => h) (by omega) (by rw [b2, b1]; omega)
      have l3 := K3.len
      refine ⟨_, _, h2, _, _, h3, cnd_of (fun _ => ?_) (fun _ => ?_)⟩
      · obtain ⟨i, M4, h4, R4⟩ := node_res R3 (K3.conv fun j hj kk hp => kidP_rep (kind := 31) (m := 2) (s := 4) hj hp (by decide) (by decide)) (by omega) (nm := noText) (ar := noText) (by show kidsS _ _ _ 2 = _; decide +kernel) (by decide) (by decide) (by decide) (by simp) (S := termK) (by decide) (b3.trans (b2.trans b1)) (H' := e + 1 + 2) (k' := XB (e + 1)) (by omega) (by omega) rfl rfl
        exact ⟨_, _, h4, _, rfl, R4⟩
      · obtain ⟨c, M4, W4, g4, h4, R4, K4, b4, _⟩ := ih.step R3 K3 (Nat.le_refl _) (fun _ h => h) (by omega) (by rw [b3, b2, b1]; omega)
        have l4 := K4.len
        obtain ⟨i, M5, h5, R5⟩ := node_res R4 (K4.conv fun j hj kk hp => kidP_rep (kind := 32) (m := 3) (s := 4) hj hp (by decide) (by decide)) (by omega) (nm := noText) (ar := noText) (by show kidsS _ _ _ 3 = _; decide +kernel) (by decide) (by decide) (by decide) (by simp) (S := termK) (by decide) (b4.trans (b3.trans (b2.trans b1))) (H' := e + 1 + 2) (k' := XB (e + 1)) (by omega) (by omega) rfl rfl
        exact ⟨_, _, h4, _, _, h5, _, rfl, R5⟩

abbrev numK (kk : Nat) : Prop := isS (Int.ofNat kk) 5 = true
theorem numK_term {kk : Nat} (h : termK kk) : numK kk := by
  unfold numK isS
  show (betw 33 35 _ || termS _) = true
  rw [h, Bool.or_true]
theorem number_draws : ∀ e, e ≤ 20 → DrawsI 98 numK e := by
  intro e
  induction e with
  | zero =>
    intro he M0 Q x M W g r h hg hlen hbn
    refine wp_res (w98 (p0 := x) (p1 := Int.ofNat 0 - 1) (M := M) ?_)
    obtain ⟨M1, k, g1, h1, hk, R1, i1, e1, b1⟩ := next_run h hg (n := 10) (by decide) (by decide)
    obtain ⟨r1, hr1⟩ := R1.sim
    have hfull := full_ret hr1 (Int.ofNat 0 - 1)
    rw [full_low (by decide)] at hfull
    obtain ⟨i, M2, h2, R2⟩ := term_draws 0 (by decide) M0 Q x M1 W g1 r1 hr1 i1 (by rw [e1]; omega) (by rw [b1]; omega)
    exact ⟨_, _, h1, _, _, hfull, cnd_t ⟨_, _, h2, _, rfl, (R2.base R1 e1 b1).mono (fun _ => numK_term) (Nat.le_refl _) (Nat.le_refl _)⟩⟩
  | succ e ih =>
    intro he M0 Q x M W g r h hg hlen hbn
    have ih := ih (by omega)
    refine wp_res (w98 (p0 := x) (p1 := Int.ofNat (e + 1) - 1) (M := M) ?_)
    rw [dec e (by omega)]
    obtain ⟨M1, k, g1, h1, hk, R1, i1, e1, b1⟩ := next_run h hg (n := 10) (by decide) (by decide)
    obtain ⟨r1, hr1⟩ := R1.sim
    have hX : XB (e + 1) = 3 * XB e + 4 := rfl
    refine ⟨_, _, h1, _, _, full_ret hr1 _, cnd_of (fun _ => ?term) (fun _ => cnd_of (fun _ => ?term2) (fun _ => cnd_of (fun _ => ?mul) (fun ha => ?add)))⟩
    case term | term2 =>
      obtain ⟨i, M2, h2, R2⟩ := term_draws (e + 1) he M0 Q x M1 W g1 r1 hr1 i1 (by rw [e1]; omega) (by rw [b1]; omega)
      exact ⟨_, _, h2, _, rfl, (R2.base R1 e1 b1).mono (fun _ => numK_term) (Nat.le_refl _) (Nat.le_refl _)⟩
    case mul =>
      obtain ⟨s, M2, g2, h2, hs, R2, i2, e2, b2⟩ := digits_run hr1 i1
      have K1 := (Kidz.nil (fun _ kk => numK kk) (e + 2) i2).base (e2.trans e1)
      obtain ⟨a, M3, W3, g3, h3, R3, K3, b3, _⟩ := ih.step (R1.trans R2) K1 (Nat.le_refl _) (fun _ h => h) (by omega) (by rw [b2, b1]; omega)
      have l3 := K3.len
      obtain ⟨_, hs1, hs2⟩ := digits_num s hs
      obtain ⟨i, M4, h4, R4⟩ := node_res R3 (K3.conv fun j hj kk hp => kidP_rep (kind := 35) (m := 1) (s := 5) hj hp (by decide) (by decide)) (by omega) (nm := s) (ar := noText) hs1 (by decide) hs2 (by decide) (by simp) (S := numK) (by decide) (b3.trans (b2.trans b1)) (H' := e + 1 + 2) (k' := XB (e + 1)) (by omega) (by omega) rfl rfl
      exact ⟨_, _, h2, _, _, h3, _, _, h4, _, rfl, R4⟩
    case add =>
      have hk7 : 7 ≤ k := by
        have : leF (Int.ofNat 7) (Int.ofNat k) = true := by simpa using ha
        rw [leF_t] at this; exact Int.ofNat_le.1 this
      have K1 := (Kidz.nil (fun _ kk => numK kk) (e + 2) i1).base e1
      obtain ⟨a, M2, W2, g2, h2, R2, K2, b2, _⟩ := ih.step R1 K1 (Nat.le_refl _) (fun _ h => h) (by omega) (by rw [b1]; omega)
      obtain ⟨r2, hr2⟩ := R2.sim
      have hL : ([33, 33, 34] : List Nat).length = 3 := rfl
      have R2' := R2.trans (Run.grow hr2 [AObj.cells [.int .i64 (Int.ofNat 33), .int .i64 (Int.ofNat 33), .int .i64 (Int.ofNat 34)] 1 .live])
      obtain ⟨b, M3, W3, g3, h3, R3, K3, b3, R23⟩ := ih.step R2' K2 (Nat.le_refl _) (fun _ h => h) (by omega) (by rw [b2, b1]; omega)
      have l3 := K3.len
      have calm : M2.length < (M2 ++ [AObj.cells [.int .i64 (Int.ofNat 33), .int .i64 (Int.ofNat 33), .int .i64 (Int.ofNat 34)] 1 .live]).length → M3[M2.length]? = (M2 ++ [AObj.cells [.int .i64 (Int.ofNat 33), .int .i64 (Int.ofNat 33), .int .i64 (Int.ofNat 34)] 1 .live])[M2.length]? :=
        fun hl => R23.mod.2 _ hl (fun hw => Nat.lt_irrefl _ (hr2.wlt _ hw))
      obtain ⟨kind, hkind, q2⟩ : ∃ kind, (kind = 33 ∨ kind = 34) ∧ cellAt (M2 ++ [AObj.cells [.int .i64 (Int.ofNat 33), .int .i64 (Int.ofNat 33), .int .i64 (Int.ofNat 34)] 1 .live]) M2.length (0 + (k - 7)) = some (.int .i64 (Int.ofNat kind)) := by
        have hc := fun o => cell_new (M := M2) (G := []) (vs := [.int .i64 (Int.ofNat 33), .int .i64 (Int.ofNat 33), .int .i64 (Int.ofNat 34)]) (u := 1) (m := .live) (by decide) o
        rcases (by omega : k = 7 ∨ k = 8 ∨ k = 9) with rfl | rfl | rfl
        · exact ⟨33, .inl rfl, hc 0⟩
        · exact ⟨33, .inl rfl, hc 1⟩
        · exact ⟨34, .inr rfl, hc 2⟩
      have q1 := idx_of (ty := 22) (e := 3) (size := 1) (by kernel_rfl) (by kernel_rfl) (x := M2.length) (o := 0) (n := 3) (c := 3) (kk := .i64) (i := wrapF .i64 (Int.sub (Int.ofNat k) (Int.ofNat 7))) (k := k - 7) (sub64 hk7 (by omega)) (by omega)
      rw [Nat.mul_one] at q1
      have hkid : kidsS (Int.ofNat kind) noText noText (List.length ([] ++ [a] ++ [b])) = some (List.replicate 2 5) ∧ numK kind ∧ kind ≠ 10 ∧ kind ≠ 30 ∧ kind < 36 := by
        rcases hkind with rfl | rfl
        · exact ⟨by show kidsS _ _ _ 2 = _; decide +kernel, by decide, by decide, by decide, by decide⟩
        · exact ⟨by show kidsS _ _ _ 2 = _; decide +kernel, by decide, by decide, by decide, by decide⟩
      obtain ⟨i, M4, h4, R4⟩ := node_res R3 (K3.conv fun j hj kk hp => kidP_rep (kind := kind) (m := 2) (s := 5) hj hp hkid.2.2.1 hkid.2.2.2.1) (by omega) (nm := noText) (ar := noText) hkid.1 hkid.2.2.2.2 (by decide) (by decide) (by simp) (S := numK) hkid.2.1 (b3.trans (b2.trans b1)) (H' := e + 1 + 2) (k' := XB (e + 1)) (by omega) (by omega) rfl rfl
      exact ⟨_, _, h2, _, _, q1, _, rd_of_cell k3 q2, _, _, h3, _, _, h4, ⟨⟨calm, trivial⟩, ⟨calm, trivial⟩, trivial⟩, _, rfl, R4⟩

end Go.Proofs.YtabkcbaknjenmaaAM
