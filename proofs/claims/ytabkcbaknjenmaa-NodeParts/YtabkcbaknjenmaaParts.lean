/-
  'litmuslaw06.NodeParts' answers true, whatever its input; the input reads as it did. Without conditions: in every world, however it stands before the call.
-/
import Derived.Test.YtabkcbaknjenmaaKC2
import Derived.Test.YtabkcbaknjenmaaChecked

/-
  'litmuslaw06.NodeParts' answers true, whatever its input; the input reads as it did. Without conditions: in every world, however it stands before the call.
-/
namespace Go.Proofs.Ytabkcbaknjenmaa.nodeParts
open Go Go.ChangeShapes Go.WideShapes Go.ChangeAt Go.RowKit
set_option linter.unusedVariables false
set_option maxRecDepth 100000
set_option maxHeartbeats 4000000

theorem own : ownKnob Try.prog.godebug = none := by kernel_rfl
theorem kids_ok : Kids Try.prog (· < Try.prog.types.size) := kids_rows (by kernel_rfl) (by kernel_rfl)
theorem full_ok {t e : TypeId} (hT : t < Try.prog.types.size) (ht : Try.prog.underlying t = some (.slice e)) : 0 < Try.prog.cellsOf e := slices_full_of Try.prog (by kernel_rfl) t e hT ht
theorem u5 : Try.prog.underlying 5 = some (.int .u8) := by kernel_rfl
theorem u25 : Try.prog.underlying 25 = some (.slice 5) := by kernel_rfl
theorem c5 : Try.prog.cellsOf 5 = 1 := by kernel_rfl

section
variable {H : Type} {enc : TypeId × Value → H} {W : World} {b0 : Nat}
theorem cell_ok_slice {t e : TypeId} {v : Value} (ht : Try.prog.underlying t = some (.slice e)) (h : Value.okWide Try.prog W .any b0 t v) : Cell.okWide Try.prog W .any b0 t v := by
  simp only [Value.okWide, ht] at h
  exact h
/-- Bytes that are given, as numbers below 256. -/
theorem bytes_of {zs : List Int} (h : ∀ z ∈ zs, (Lit.int .u8 z).wf = true) : ∃ l : List UInt8, zs.map (Value.int .u8) = l.map (fun b => Value.int .u8 (b.toNat : Nat)) ∧ l.length = zs.length := by
  induction zs with
  | nil => exact ⟨[], rfl, rfl⟩
  | cons z zs ih =>
    obtain ⟨l, h1, h2⟩ := ih (fun z hz => h z (by simp [hz]))
    have b := bounds_u8 (h z (by simp))
    obtain ⟨n, rfl⟩ := Int.eq_ofNat_of_zero_le b.1
    have hn : n < 256 := by omega
    exact ⟨UInt8.ofNat n :: l, by simp [h1, Nat.mod_eq_of_lt hn], by simp [h2]⟩
end

theorem walk {H : Type} {enc : TypeId × Value → H} {W : World} {b0 : Nat} {b : Value} {d2 : DataW H} {q2 : List MemPlace} (v2 : Value.okWide Try.prog W .any b0 25 b) (h2 : DataW.Trod enc Try.prog W 0 (fun _ => true) true 25 b d2 q2) :
    Calls Try.prog 4 #[b] W fun e w' => e = .returned (.bool true) ∧ Grown W w' ∧ ∀ k, k < W.heap.size → w'.heap[k]? = W.heap[k]? := by
  obtain ⟨fuel2, t2⟩ := h2
  have o2 := cell_ok_slice u25 v2
  obtain ⟨ba, bn, bc, rfl⟩ := okWide_slice u25 v2
  obtain ⟨r2, zs2, n2, c2, k2, l2, w2, f2⟩ := YtabkcbaknjenmaaAM.slice_in u25 u5 c5 o2 t2
  obtain ⟨a2, g3, g4⟩ := f2 [r2] 0 rfl
  obtain ⟨l, e1, e2⟩ := bytes_of w2
  rw [e1] at g4
  rw [← l2, ← e2] at g3 g4
  obtain ⟨M', hr⟩ := YtabkcbaknjenmaaAM.parts_ret (M := YtabkcbaknjenmaaAM.rowsMem [r2]) g4
  refine YtabkcbaknjenmaaAM.calls_same hr (YtabkcbaknjenmaaAM.rows_rel (fun r hr => ?_)) ?_ YtabkcbaknjenmaaAM.rows_wb rfl
  · simp only [List.mem_cons, List.not_mem_nil, or_false] at hr
    subst hr; exact k2
  · exact .cons g3 (.nil _)

theorem contract (H : Type) (enc : TypeId × Value → H) (W : World) (base : Nat) (args : Array Value) (ds gs : List (DataW H)) (before : List MemPlace)
    (hval : ∀ (j : Nat) t v, Try.f4.params[j]? = some t → args[j]? = some v → Value.okWide Try.prog W .any base t v)
    (hW : DataW.Whole enc Try.prog Try.f4.params.toList Rows.nodePartsSpec.vars false W args.toList ds gs before) :
    Calls Try.prog 4 args W fun e W' => ∃ v, e = .returned v ∧ Rows.nodePartsSpec.post enc Try.prog Try.f4 false true false false W args v W' := by
  have hW' := hW
  obtain ⟨p, q, hA0, hV, rfl, hfz, hnd⟩ := hW
  have hA : DataW.TrodAll enc Try.prog W 0 (fun _ => true) true Try.f4.params.toList args.toList ds p := hA0
  rw [Try.params4] at hA hval
  obtain ⟨b, d2, rfl, rfl, h2⟩ := trodAll_one hA
  obtain ⟨rfl, rfl⟩ := trodVars_none hV
  simp only [List.append_nil] at hW'
  have ok := fun (j : Nat) (t : TypeId) (v : Value) (a : (#[25] : Array TypeId)[j]? = some t) (b' : (#[b] : Array Value)[j]? = some v) => hval j t v a b'
  refine (walk (ok 0 25 b rfl rfl) h2).mono fun e W' ⟨he, hg, hs⟩ => ?_
  subst he
  have hlt := hW'.lt
  exact ⟨_, rfl, post_of_same (pa := p) (pv := []) hW' (fun _ _ _ => (trodAll_cons_mk (shut_bool Try.underlying4 _) trodAll_mk0)) (fun sp hsp => YtabkcbaknjenmaaAM.trodAll_stays kids_ok (fun a b => full_ok a b) (by rw [Try.params4]; intro t ht; simp at ht; subst ht; exact of_decide_eq_true (by kernel_rfl)) hA0 (fun p hp => YtabkcbaknjenmaaAM.same_of_block hs (hlt p hp)) hsp) (fun _ _ => rfl) (by simp)
    (hg.frame _) hg.2.1 (ok_one (by kernel_rfl) rfl (okWide_bool_mk Try.underlying4 _))⟩

theorem lifted (os : Os) (started : os.Started) (H : Type) (enc : TypeId × Value → H) :
    ReturnsInHanded {} Try.checked os 4 .any (Rows.nodePartsSpec.pre6 enc Try.prog Try.f4 Rows.nodePartsRow.domain false) (Rows.nodePartsSpec.post enc Try.prog Try.f4 false true false false) := by
  refine returnsInHanded_of_change (C := Try.checked) own started (by kernel_rfl) Try.func4
    (ChangeSpec.witness6 (enc := enc) (C := Try.checked) false ⟨#[], #[.slice none 0 0], []⟩ 8 (by kernel_rfl) (by kernel_rfl) (by kernel_rfl) (by kernel_rfl)) ?_
  intro W base args ds gs before hval hW _ _
  exact contract H enc W base args ds gs before hval hW

theorem over : Rows.nodePartsRow.holds Try.pinned (OpenSpec.ofChange Rows.nodePartsSpec) :=
  OpenClaim.holds_of_wide 4 Try.f4 rfl rfl rfl rfl rfl rfl rfl ⟨rfl, rfl, rfl, rfl, rfl⟩ rfl rfl rfl rfl rfl (by kernel_rfl) Try.func4 (by kernel_rfl)
    (of_decide_eq_true (by kernel_rfl)) (by unfold Func.isWrapper; first | (rw [if_pos (by decide +kernel)]; kernel_rfl) | (rw [if_neg (by decide +kernel)]; exact ⟨rfl, rfl⟩))
    (fun os started H enc _ => lifted os started H enc)

theorem proved : Rows.NodePartsSaid :=
  over
end Go.Proofs.Ytabkcbaknjenmaa.nodeParts
