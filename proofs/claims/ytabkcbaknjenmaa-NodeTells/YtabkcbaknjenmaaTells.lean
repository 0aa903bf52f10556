/-
  'litmuslaw06.NodeTells' answers true, whatever its input; the input reads as it did. Without conditions: in every world, however it stands before the call.
-/
import Derived.Test.YtabkcbaknjenmaaKB7
import Derived.Test.YtabkcbaknjenmaaChecked

/-
  'litmuslaw06.NodeTells' answers true, whatever its input; the input reads as it did. Without conditions: in every world, however it stands before the call.
-/
namespace Go.Proofs.Ytabkcbaknjenmaa.nodeTells
open Go Go.ChangeShapes Go.WideShapes Go.ChangeAt Go.RowKit
set_option linter.unusedVariables false
set_option maxRecDepth 100000
set_option maxHeartbeats 4000000

theorem own : ownKnob Try.prog.godebug = none := by kernel_rfl
theorem kids_ok : Kids Try.prog (· < Try.prog.types.size) := kids_rows (by kernel_rfl) (by kernel_rfl)
theorem full_ok {t e : TypeId} (hT : t < Try.prog.types.size) (ht : Try.prog.underlying t = some (.slice e)) : 0 < Try.prog.cellsOf e := slices_full_of Try.prog (by kernel_rfl) t e hT ht
theorem u3 : Try.prog.underlying 3 = some (.int .i64) := by kernel_rfl
theorem u5 : Try.prog.underlying 5 = some (.int .u8) := by kernel_rfl
theorem u9 : Try.prog.underlying 9 = some .string := by kernel_rfl
theorem u22 : Try.prog.underlying 22 = some (.slice 3) := by kernel_rfl
theorem u25 : Try.prog.underlying 25 = some (.slice 5) := by kernel_rfl
theorem u26 : Try.prog.underlying 26 = some (.int .i16) := by kernel_rfl
theorem c3 : Try.prog.cellsOf 3 = 1 := by kernel_rfl
theorem c5 : Try.prog.cellsOf 5 = 1 := by kernel_rfl
theorem c9 : Try.prog.cellsOf 9 = 1 := by kernel_rfl
theorem c22 : Try.prog.cellsOf 22 = 1 := by kernel_rfl
theorem c24 : Try.prog.cellsOf 24 = 5 := by kernel_rfl
theorem c26 : Try.prog.cellsOf 26 = 1 := by kernel_rfl
theorem c28 : Try.prog.cellsOf 28 = 4 := by kernel_rfl

section
variable {H : Type} {enc : TypeId × Value → H} {W : World} {b0 : Nat}
theorem cut_int {k : IntKind} {t : TypeId} {cs : List Value} {o : Nat} {n : Nat} {x : DataW H × List MemPlace} (ht : Try.prog.underlying t = some (.int k)) (hc : Try.prog.cellsOf t = 1) (h : DataW.trod enc Try.prog W 0 (fun _ => true) true n t ((cs.drop o).take (Try.prog.cellsOf t)) = some x) : ∃ z, cs[o]? = some (.int k z) ∧ (Lit.int k z).wf = true := by
  obtain ⟨z, h1, _, h3⟩ := DataW.trod_int ht h
  rw [hc] at h1
  exact ⟨z, cell_of_cut h1, h3⟩
theorem cut_str {t : TypeId} {cs : List Value} {o : Nat} {n : Nat} {x : DataW H × List MemPlace} (ht : Try.prog.underlying t = some .string) (hc : Try.prog.cellsOf t = 1) (h : DataW.trod enc Try.prog W 0 (fun _ => true) true n t ((cs.drop o).take (Try.prog.cellsOf t)) = some x) : ∃ s, cs[o]? = some (.string s) := by
  obtain ⟨s, h1, _, _⟩ := DataW.trod_string ht h
  rw [hc] at h1
  exact ⟨s, cell_of_cut h1⟩
/-- A node that is given. -/
theorem open_node {v : Value} {d : DataW H} {p : List MemPlace} (hval : Value.okWide Try.prog W .any b0 24 v) (h : DataW.Trod enc Try.prog W 0 (fun _ => true) true 24 v d p) :
    ∃ kind nm ar kv pos fuel x, v = .agg #[.int .i64 kind, .string nm, .string ar, kv, .int .i64 pos] ∧ DataW.trod enc Try.prog W 0 (fun _ => true) true fuel 22 [kv] = some x ∧ Cell.okWide Try.prog W .any b0 22 kv := by
  have hval0 := hval
  obtain ⟨cs, rfl, hsz⟩ := okWide_struct Try.underlying24 hval
  obtain ⟨fuel, hf⟩ := h
  obtain ⟨xs, n, rfl, _, hlen, _, hfs⟩ := DataW.trod_struct Try.underlying24 hf
  have f0 := hfs 0 _ rfl
  have f1 := hfs 1 _ rfl
  have f2 := hfs 2 _ rfl
  have f3 := hfs 3 _ rfl
  have f4 := hfs 4 _ rfl
  have hxs : xs.length = 5 := by assumption
  rw [List.getElem?_eq_getElem (by omega)] at f0 f1 f2 f3 f4
  simp only [Value.cells] at f0 f1 f2 f3 f4 hlen
  rw [c24] at hlen
  obtain ⟨kind, g0, _⟩ := cut_int u3 c3 f0
  obtain ⟨nm, g1⟩ := cut_str u9 c9 f1
  obtain ⟨ar, g2⟩ := cut_str u9 c9 f2
  obtain ⟨pos, g4, _⟩ := cut_int u3 c3 f4
  obtain ⟨l⟩ := cs
  simp only at g0 g1 g2 g4 f3 hlen
  match l, hlen with
  | [a0, a1, a2, kv, a4], _ =>
    simp at g0 g1 g2 g4
    subst g0; subst g1; subst g2; subst g4
    refine ⟨kind, nm, ar, kv, pos, n, _, rfl, (by
      have f3 : DataW.trod enc Try.prog W 0 (fun _ => true) true n 22 ([kv].take (Try.prog.cellsOf 22)) = some xs[3] := f3
      rw [c22] at f3; exact f3), ?_⟩
    simp only [Value.okWide, Try.underlying24] at hval0
    obtain ⟨_, e, _, ts, hts, _, hrow⟩ := hval0
    injection e with e
    subst e
    have hts2 : Try.prog.cellTypes Try.prog.depth 24 = some [3, 9, 9, 22, 3] := by kernel_rfl
    rw [hts2] at hts
    injection hts with hts
    subst hts
    obtain ⟨u, hu, hcell⟩ := hrow 3 kv rfl
    injection hu with hu
    subst hu
    exact hcell
/-- A turn that is given. -/
theorem open_turn {v : Value} {d : DataW H} {p : List MemPlace} (hval : Value.okWide Try.prog W .any b0 28 v) (h : DataW.Trod enc Try.prog W 0 (fun _ => true) true 28 v d p) :
    ∃ a c i s, c < 256 ∧ v = .agg #[.int .u8 (Int.ofNat a), .int .u8 (Int.ofNat c), .int .i16 i, .string s] := by
  obtain ⟨cs, rfl, hsz⟩ := okWide_struct Try.underlying28 hval
  obtain ⟨fuel, hf⟩ := h
  obtain ⟨xs, n, rfl, _, hlen, _, hfs⟩ := DataW.trod_struct Try.underlying28 hf
  have f0 := hfs 0 _ rfl
  have f1 := hfs 1 _ rfl
  have f2 := hfs 2 _ rfl
  have f3 := hfs 3 _ rfl
  have hxs : xs.length = 4 := by assumption
  rw [List.getElem?_eq_getElem (by omega)] at f0 f1 f2 f3
  simp only [Value.cells] at f0 f1 f2 f3 hlen
  rw [c28] at hlen
  obtain ⟨a, g0, w0⟩ := cut_int u5 c5 f0
  obtain ⟨c, g1, w1⟩ := cut_int u5 c5 f1
  obtain ⟨i, g2, _⟩ := cut_int u26 c26 f2
  obtain ⟨s, g3⟩ := cut_str u9 c9 f3
  have b0 := bounds_u8 w0
  have b1 := bounds_u8 w1
  obtain ⟨a', rfl⟩ := Int.eq_ofNat_of_zero_le b0.1
  obtain ⟨c', rfl⟩ := Int.eq_ofNat_of_zero_le b1.1
  obtain ⟨l⟩ := cs
  simp only at g0 g1 g2 g3 hlen
  match l, hlen with
  | [a0, a1, a2, a3], _ =>
    simp at g0 g1 g2 g3
    subst g0; subst g1; subst g2; subst g3
    exact ⟨a', c', i, s, by omega, rfl⟩
theorem cell_ok_slice {t e : TypeId} {v : Value} (ht : Try.prog.underlying t = some (.slice e)) (h : Value.okWide Try.prog W .any b0 t v) : Cell.okWide Try.prog W .any b0 t v := by
  simp only [Value.okWide, ht] at h
  exact h
/-- Bytes that are given, as numbers below 256. -/
theorem bytes_of {zs : List Int} (h : ∀ z ∈ zs, (Lit.int .u8 z).wf = true) : ∃ l : List UInt8, zs.map (Value.int .u8) = l.map (fun b => Value.int .u8 (b.toNat : Nat)) ∧ l.length = zs.length := by
  induction zs with
  | nil => exact ⟨[], rfl, rfl⟩
  | cons z zs ih =>
    obtain ⟨l, h1, h2⟩ := ih (fun z hz => h z (by simp [hz]))
    have b := bounds_u8 (h z (by simp))
    obtain ⟨n, rfl⟩ := Int.eq_ofNat_of_zero_le b.1
    have hn : n < 256 := by omega
    exact ⟨UInt8.ofNat n :: l, by simp [h1, Nat.mod_eq_of_lt hn], by simp [h2]⟩
end

theorem walk {H : Type} {enc : TypeId × Value → H} {W : World} {b0 : Nat} {n b x : Value} {d1 d2 d3 : DataW H} {q1 q2 q3 : List MemPlace} (v1 : Value.okWide Try.prog W .any b0 24 n) (v2 : Value.okWide Try.prog W .any b0 25 b) (v3 : Value.okWide Try.prog W .any b0 28 x)
    (h1 : DataW.Trod enc Try.prog W 0 (fun _ => true) true 24 n d1 q1) (h2 : DataW.Trod enc Try.prog W 0 (fun _ => true) true 25 b d2 q2) (h3 : DataW.Trod enc Try.prog W 0 (fun _ => true) true 28 x d3 q3) :
    Calls Try.prog 3 #[n, b, x] W fun e w' => e = .returned (.bool true) ∧ Grown W w' ∧ ∀ k, k < W.heap.size → w'.heap[k]? = W.heap[k]? := by
  obtain ⟨kind, nm, ar, kv, pos, fuel, y, rfl, t1, o1⟩ := open_node v1 h1
  obtain ⟨a, c, i, s, hc, rfl⟩ := open_turn v3 h3
  obtain ⟨fuel2, t2⟩ := h2
  have o2 := cell_ok_slice u25 v2
  obtain ⟨ba, bn, bc, rfl⟩ := okWide_slice u25 v2
  obtain ⟨r1, zs1, n1, c1, k1, l1, w1, f1⟩ := YtabkcbaknjenmaaAM.slice_in u22 u3 c3 o1 t1
  obtain ⟨r2, zs2, n2, c2, k2, l2, w2, f2⟩ := YtabkcbaknjenmaaAM.slice_in u25 u5 c5 o2 t2
  obtain ⟨a1, g1, g2⟩ := f1 [r1, r2] 0 rfl
  obtain ⟨a2, g3, g4⟩ := f2 [r1, r2] 1 rfl
  obtain ⟨l, e1, e2⟩ := bytes_of w2
  subst l1
  rw [e1] at g4
  rw [← l2, ← e2] at g3 g4
  obtain ⟨M', hr⟩ := YtabkcbaknjenmaaAM.tells_ret (M := YtabkcbaknjenmaaAM.rowsMem [r1, r2]) (nd := ⟨kind, nm, ar, zs1, pos⟩) g2 g4 (a := a) hc (i := i) (s := s)
  refine YtabkcbaknjenmaaAM.calls_same hr (YtabkcbaknjenmaaAM.rows_rel (fun r hr => ?_)) ?_ YtabkcbaknjenmaaAM.rows_wb rfl
  · simp only [List.mem_cons, List.not_mem_nil, or_false] at hr
    rcases hr with rfl | rfl
    · exact k1
    · exact k2
  · exact .cons (.agg_of (.cons (.int _ _) (.cons (.string _) (.cons (.string _) (.cons g1 (.cons (.int _ _) (.nil _))))))) (.cons g3 (.cons (.agg_of (.cons (.int _ _) (.cons (.int _ _) (.cons (.int _ _) (.cons (.string _) (.nil _)))))) (.nil _)))

theorem contract (H : Type) (enc : TypeId × Value → H) (W : World) (base : Nat) (args : Array Value) (ds gs : List (DataW H)) (before : List MemPlace)
    (hval : ∀ (j : Nat) t v, Try.f3.params[j]? = some t → args[j]? = some v → Value.okWide Try.prog W .any base t v)
    (hW : DataW.Whole enc Try.prog Try.f3.params.toList Rows.nodeTellsSpec.vars false W args.toList ds gs before) :
    Calls Try.prog 3 args W fun e W' => ∃ v, e = .returned v ∧ Rows.nodeTellsSpec.post enc Try.prog Try.f3 false true false false W args v W' := by
  have hW' := hW
  obtain ⟨p, q, hA0, hV, rfl, hfz, hnd⟩ := hW
  have hA : DataW.TrodAll enc Try.prog W 0 (fun _ => true) true Try.f3.params.toList args.toList ds p := hA0
  rw [Try.params3] at hA hval
  obtain ⟨n, b, x, d1, d2, d3, q1, q2, q3, rfl, rfl, rfl, h1, h2, h3⟩ := trodAll_three hA
  obtain ⟨rfl, rfl⟩ := trodVars_none hV
  simp only [List.append_nil] at hW'
  have ok := fun (j : Nat) (t : TypeId) (v : Value) (a : (#[24, 25, 28] : Array TypeId)[j]? = some t) (b' : (#[n, b, x] : Array Value)[j]? = some v) => hval j t v a b'
  refine (walk (ok 0 24 n rfl rfl) (ok 1 25 b rfl rfl) (ok 2 28 x rfl rfl) h1 h2 h3).mono fun e W' ⟨he, hg, hs⟩ => ?_
  subst he
  have hlt := hW'.lt
  exact ⟨_, rfl, post_of_same (pa := q1 ++ q2 ++ q3) (pv := []) hW' (fun _ _ _ => (trodAll_cons_mk (shut_bool Try.underlying4 _) trodAll_mk0)) (fun sp hsp => YtabkcbaknjenmaaAM.trodAll_stays kids_ok (fun a b => full_ok a b) (by rw [Try.params3]; intro t ht; simp at ht; rcases ht with rfl | rfl | rfl <;> exact of_decide_eq_true (by kernel_rfl)) hA0 (fun p hp => YtabkcbaknjenmaaAM.same_of_block hs (hlt p hp)) hsp) (fun _ _ => rfl) (by simp)
    (hg.frame _) hg.2.1 (ok_one (by kernel_rfl) rfl (okWide_bool_mk Try.underlying4 _))⟩

theorem lifted (os : Os) (started : os.Started) (H : Type) (enc : TypeId × Value → H) :
    ReturnsInHanded {} Try.checked os 3 .any (Rows.nodeTellsSpec.pre6 enc Try.prog Try.f3 Rows.nodeTellsRow.domain false) (Rows.nodeTellsSpec.post enc Try.prog Try.f3 false true false false) := by
  refine returnsInHanded_of_change (C := Try.checked) own started (by kernel_rfl) Try.func3
    (ChangeSpec.witness6 (enc := enc) (C := Try.checked) false ⟨#[], #[.agg #[.int .i64 0, .string ⟨#[]⟩, .string ⟨#[]⟩, .slice none 0 0, .int .i64 0], .slice none 0 0, .agg #[.int .u8 0, .int .u8 0, .int .i16 0, .string ⟨#[]⟩]], []⟩ 8 (by kernel_rfl) (by kernel_rfl) (by kernel_rfl) (by kernel_rfl)) ?_
  intro W base args ds gs before hval hW _ _
  exact contract H enc W base args ds gs before hval hW

theorem over : Rows.nodeTellsRow.holds Try.pinned (OpenSpec.ofChange Rows.nodeTellsSpec) :=
  OpenClaim.holds_of_wide 3 Try.f3 rfl rfl rfl rfl rfl rfl rfl ⟨rfl, rfl, rfl, rfl, rfl⟩ rfl rfl rfl rfl rfl (by kernel_rfl) Try.func3 (by kernel_rfl)
    (of_decide_eq_true (by kernel_rfl)) (by unfold Func.isWrapper; first | (rw [if_pos (by decide +kernel)]; kernel_rfl) | (rw [if_neg (by decide +kernel)]; exact ⟨rfl, rfl⟩))
    (fun os started H enc _ => lifted os started H enc)

theorem proved : Rows.NodeTellsSaid :=
  over
end Go.Proofs.Ytabkcbaknjenmaa.nodeTells
