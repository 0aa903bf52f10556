/-
  Part KB2 of the proof: merged texts.
-/
import Derived.Test.YtabkcbaknjenmaaKB1
import Derived.Test.YtabkcbaknjenmaaKA3

/-
  THE NODE LAWS: what small functions answer: lex.
-/
set_option linter.unusedVariables false
set_option linter.unusedSimpArgs false
namespace Go.Proofs.YtabkcbaknjenmaaAM
open Go Go.Proofs
set_option maxRecDepth 100000

theorem hP : Try.prog.follows .mixedOrders = true := by kernel_rfl

/-! ### Numbers and texts -/
theorem leF_t {a b : Int} : leF a b = true ↔ a ≤ b := by rw [leF_eq]; simp
theorem leF_f {a b : Int} : leF a b = false ↔ b < a := by rw [leF_eq]; simp
theorem eqF_t {a b : Int} : eqF a b = true ↔ a = b := by rw [eqF_eq]; simp
theorem eqF_f {a b : Int} : eqF a b = false ↔ a ≠ b := by rw [eqF_eq]; simp
def B (s : ByteArray) : List UInt8 := s.data.toList
theorem B_inj {a b : ByteArray} (h : B a = B b) : a = b := by
  cases a; cases b
  simp only [B] at h
  rw [Array.toList_inj.1 h]
theorem eqS_t {a b : ByteArray} : eqS a b = true ↔ a = b := by
  rw [eqS_eq, ByteArray.toList_eq, ByteArray.toList_eq]
  simp only [beq_iff_eq]
  exact ⟨fun h => B_inj h, fun h => by rw [h]⟩
theorem eqS_f {a b : ByteArray} : eqS a b = false ↔ a ≠ b := by rw [← Bool.not_eq_true, eqS_t]
theorem B_len (s : ByteArray) : (B s).length = s.size := by simp [B]
theorem B_extract (s : ByteArray) (i j : Nat) : B (s.extract i j) = ((B s).take j).drop i := by
  simp only [B, ByteArray.data_extract, Array.toList_extract, List.extract_eq_take_drop, List.drop_take]
theorem B_get {s : ByteArray} {i : Nat} (h : i < s.size) : s.get! i = (B s)[i]'(by rw [B_len]; exact h) := by
  cases s with
  | mk d =>
    have : i < d.size := h
    simp [ByteArray.get!, B, getElem!_pos d i this]
theorem wrap64 {n : Int} (h1 : -9223372036854775808 ≤ n) (h2 : n < 9223372036854775808) : wrapF .i64 n = n := by
  rw [wrapF_eq]; exact wrap_id .i64 (by simpa [kNeg] using h1) (by simpa [kMax] using h2)
/-- Not longer than any text on a machine. -/
def Short (s : ByteArray) : Prop := s.size < 4611686018427387904

theorem str9 : kindT Try.prog 9 = some .str := by kernel_rfl
theorem slice9 {M : Mem} {s : ByteArray} {lo hi : Option Value} {l h : Nat} (hl : bnd lo 0 = some l) (hh : bnd hi s.size = some h) (h1 : l ≤ h) (h2 : h ≤ s.size) : sliceA Try.prog M 9 (.string s) lo hi none = some (.string (s.extract l h)) := by
  simp [sliceA, str9, hl, hh, h1, h2]
theorem bnd_nat (n d : Nat) : bnd (some (.int .i64 (Int.ofNat n))) d = some n := by simp [bnd]
theorem bnd_int' {n : Int} {m d : Nat} (h : n = m) : bnd (some (.int .i64 n)) d = some m := by subst h; exact bnd_nat m d
theorem index9 {s : ByteArray} {i : Int} {k : Nat} (hi : i = k) (h : k < s.size) : indexA Try.prog 9 (.string s) (.int .i64 i) = some (.int .u8 (((B s)[k]'(by rw [B_len]; exact h)).toNat : Nat)) := by
  subst hi
  simp only [indexA, str9, if_true]
  have h0 : (0 : Int) ≤ (k : Int) := by omega
  rw [if_pos h0]
  have : s[(k : Int).toNat]? = some ((B s)[k]'(by rw [B_len]; exact h)) := by
    have e : (k : Int).toNat = k := by omega
    rw [e, getElem?_pos s k h]
    rfl
  rw [this]; rfl

/-! ### UTF-8 -/
theorem decode_lo {s : ByteArray} {i : Nat} (h : i < s.size) (hb : ((B s)[i]'(by rw [B_len]; exact h)).toNat < 128) : Utf8.decode s i = (((B s)[i]'(by rw [B_len]; exact h)).toNat, 1) := by
  unfold Utf8.decode
  simp only [Nat.add_zero, B_get h]
  rw [if_pos hb]
theorem decode_hi {s : ByteArray} {i : Nat} (h : i < s.size) (hb : 128 ≤ ((B s)[i]'(by rw [B_len]; exact h)).toNat) : 128 ≤ (Utf8.decode s i).1 := by
  unfold Utf8.decode
  simp only [Nat.add_zero, B_get h]
  rw [if_neg (by omega)]
  have hr : 128 ≤ Utf8.runeError := by simp [Utf8.runeError]
  split
  · split
    · assumption
    · exact hr
  · split
    · split
      · rename_i hc; simp only [Bool.and_eq_true, decide_eq_true_eq] at hc; omega
      · exact hr
    · split
      · split
        · rename_i hc; simp only [Bool.and_eq_true, decide_eq_true_eq] at hc; omega
        · exact hr
      · exact hr

def hasC (l : List UInt8) (c : Int) : Bool := l.any fun b => eqF c (Int.ofNat b.toNat)
def Ascii (l : List UInt8) : Prop := ∀ b ∈ l, b.toNat < 128
instance (l : List UInt8) : Decidable (Ascii l) := inferInstanceAs (Decidable (∀ b ∈ l, b.toNat < 128))

theorem hasC_take {l : List UInt8} {c : Int} {p : Nat} (h : p < l.length) : hasC (l.take (p + 1)) c = (hasC (l.take p) c || eqF c (Int.ofNat (l[p]'h).toNat)) := by
  rw [List.take_add_one, List.getElem?_eq_getElem h]
  simp only [hasC, List.any_append, Option.toList_some, List.any_cons, List.any_nil, Bool.or_false]

/-- How many bytes at the beginning are of some. -/
def runN (s set : ByteArray) : Nat := ((B s).takeWhile fun b => (B set).contains b).length

theorem hasC_mem {l : List UInt8} {b : UInt8} : hasC l (Int.ofNat b.toNat) = l.contains b := by
  rw [Bool.eq_iff_iff]
  simp only [hasC, List.any_eq_true, eqF_t, List.contains_iff_mem]
  constructor
  · rintro ⟨x, hx, e⟩
    have : b.toNat = x.toNat := Int.ofNat.inj e
    rw [UInt8.toNat_inj.1 this]; exact hx
  · intro h; exact ⟨b, h, rfl⟩
theorem hasC_high {l : List UInt8} (hl : Ascii l) {n : Nat} (h : 128 ≤ n) : hasC l (Int.ofNat n) = false := by
  rw [← Bool.not_eq_true]
  simp only [hasC, List.any_eq_true, eqF_t]
  rintro ⟨x, hx, e⟩
  have := hl x hx
  have : n = x.toNat := Int.ofNat.inj e
  omega

theorem takeWhile_len {p : UInt8 → Bool} : ∀ {l : List UInt8} {k : Nat}, k ≤ l.length → (∀ j (h : j < l.length), j < k → p l[j] = true) → (∀ (h : k < l.length), p l[k] = false) → (l.takeWhile p).length = k
  | [], k, hk, _, _ => by simp at hk; simp [hk]
  | x :: l, 0, _, _, h2 => by
    have := h2 (by simp)
    simp only [List.getElem_cons_zero] at this
    simp [List.takeWhile_cons, this]
  | x :: l, k + 1, hk, h1, h2 => by
    have h0 := h1 0 (by simp) (by omega)
    simp only [List.getElem_cons_zero] at h0
    rw [List.takeWhile_cons, if_pos h0, List.length_cons, takeWhile_len (k := k) (by simpa using hk) (fun j h hj => h1 (j + 1) (Nat.succ_lt_succ h) (by omega)) (fun h => h2 (Nat.succ_lt_succ h))]

theorem cutLeft_ret {s set : ByteArray} (hs : Short s) (hset : Ascii (B set)) (M : Mem) : Ret Try.prog 103 [.string s, .string set] M (.string (s.extract (runN s set) s.size)) M := by
  suffices h : ∃ v M', Ret Try.prog 103 [.string s, .string set] [] v M' ∧ v = .string (s.extract (runN s set) s.size) by
    obtain ⟨v, M', h, rfl⟩ := h
    exact h.plain rfl rfl M
  refine Ret.wpH hP (w103 fun t0 hT => ?_)
  have key := loop103_0 (ut0 := s) (ut1 := set) (ut11 := 0) (d := []) (rc := false)
    (Inv := fun n M => ∃ p, M[0]? = some (.siter s p) ∧ p ≤ s.size ∧ n = s.size - p ∧ ∀ j (h : j < (B s).length), j < p → (B set).contains (B s)[j] = true)
    (R0 := fun M => ∀ j (h : j < (B s).length), (B set).contains (B s)[j] = true) (R1 := fun r M => r = s.extract (runN s set) s.size)
    (step := by
      rintro n M ⟨p, hM, hp, hn, hall⟩
      refine ⟨s, p, hM, cnd_of (fun hlt => ?_) (fun hge => ?_)⟩
      · have hlt : p < s.size := by rw [Nat.blt_eq] at hlt; exact hlt
        have hlB : p < (B s).length := by rw [B_len]; exact hlt
        have hM0 : 0 < M.length := (List.getElem?_eq_some_iff.1 hM).1
        intro t4 hT4
        obtain ⟨ot, M', hL, hR⟩ := loop103_1 (ut0 := s) (ut1 := set) (ut6 := Int.ofNat (Utf8.decode s p).1) (ut17 := (List.set M 0 (AObj.siter s (p + (Utf8.decode s p).2))).length)
          (Inv := fun n b M1 => ∃ q, M1[(List.set M 0 (AObj.siter s (p + (Utf8.decode s p).2))).length]? = some (.siter set q) ∧ M1[0]? = some (.siter s (p + (Utf8.decode s p).2)) ∧ q ≤ set.size ∧ n = set.size - q ∧ b = hasC ((B set).take q) (Int.ofNat (Utf8.decode s p).1))
          (R0 := fun b M1 => M1[0]? = some (.siter s (p + (Utf8.decode s p).2)) ∧ b = hasC (B set) (Int.ofNat (Utf8.decode s p).1))
          (step := by
            rintro m b M1 ⟨q, h1, h2, h3, h4, h5⟩
            refine ⟨set, q, h1, cnd_of (fun hq => ?_) (fun hq => ?_)⟩
            · have hq : q < set.size := by rw [Nat.blt_eq] at hq; exact hq
              have hqB : q < (B set).length := by rw [B_len]; exact hq
              have hd := decode_lo hq (hset _ (List.getElem_mem hqB))
              rw [hd]
              have hk : (List.set M 0 (AObj.siter s (p + (Utf8.decode s p).2))).length ≠ 0 := by rw [List.length_set]; omega
              have hlen := (List.getElem?_eq_some_iff.1 h1).1
              have e1 : (M1.set (List.set M 0 (AObj.siter s (p + (Utf8.decode s p).2))).length (AObj.siter set (q + 1)))[(List.set M 0 (AObj.siter s (p + (Utf8.decode s p).2))).length]? = some (AObj.siter set (q + 1)) := by
                rw [List.getElem?_set]; simp only [if_true]; rw [if_pos hlen]
              have e2 : (M1.set (List.set M 0 (AObj.siter s (p + (Utf8.decode s p).2))).length (AObj.siter set (q + 1)))[0]? = some (.siter s (p + (Utf8.decode s p).2)) := by
                rw [List.getElem?_set_ne hk]; exact h2
              refine cnd_of (fun hb => ⟨set.size - (q + 1), by omega, q + 1, e1, e2, hq, rfl, ?_⟩) (fun hb => ⟨set.size - (q + 1), by omega, q + 1, e1, e2, hq, rfl, ?_⟩)
              · rw [hasC_take hqB, ← h5, hb]; rfl
              · rw [hasC_take hqB, ← h5, hb]; rfl
            · have hq : ¬ q < set.size := by intro h; rw [← Nat.blt_eq] at h; rw [h] at hq; simp at hq
              refine ⟨h2, ?_⟩
              rw [h5, List.take_of_length_le (by rw [B_len]; omega)])
          (n := set.size) (t7 := false) (M := List.set M 0 (AObj.siter s (p + (Utf8.decode s p).2)) ++ [AObj.siter set 0])
          ⟨0, by simp, by rw [List.getElem?_append_left (by simpa using hM0)]; simp [hM0], Nat.zero_le _, rfl, by simp [hasC]⟩ hT4
        refine ⟨ot, M', hL, fun _ => ?_⟩
        obtain ⟨hM', hot⟩ := hR
        have hcase : (ot = true ∧ (Utf8.decode s p).2 = 1 ∧ (B set).contains (B s)[p] = true) ∨ (ot = false ∧ (B set).contains (B s)[p] = false) := by
          rcases Nat.lt_or_ge ((B s)[p]).toNat 128 with h | h
          · have hd := decode_lo hlt h
            rw [hd] at hot
            simp only at hot
            rw [hasC_mem] at hot
            cases ho : ot with
            | true => exact .inl ⟨rfl, by rw [hd], by rw [← hot, ho]⟩
            | false => exact .inr ⟨rfl, by rw [← hot, ho]⟩
          · have hd := decode_hi hlt h
            rw [hasC_high hset hd] at hot
            refine .inr ⟨hot, ?_⟩
            rw [← Bool.not_eq_true]
            intro hc
            have := hset _ (List.contains_iff_mem.1 hc)
            omega
        rcases hcase with ⟨ho, hw, hc⟩ | ⟨ho, hc⟩
        · rw [ho]
          refine cnd_f ⟨s.size - (p + 1), by omega, p + 1, by rw [hM', hw], hlt, rfl, fun j h hj => ?_⟩
          rcases Nat.lt_or_ge j p with h' | h'
          · exact hall j h h'
          · have : j = p := by omega
            subst this; exact hc
        · rw [ho]
          have hrun : runN s set = p := takeWhile_len (by rw [B_len]; exact hp) hall (fun _ => hc)
          refine cnd_t ⟨_, slice9 (bnd_nat _ _) rfl (Nat.le_of_lt hlt) (Nat.le_refl _), ?_⟩
          rw [hrun]
      · have hge : ¬ p < s.size := by intro h; rw [← Nat.blt_eq] at h; rw [h] at hge; simp at hge
        exact fun j h => hall j h (by rw [B_len] at h; omega))
    (n := s.size) (M := [AObj.siter s 0])
    ⟨0, rfl, Nat.zero_le _, rfl, fun j _ hj => by omega⟩ hT
  rcases key with ⟨M', hL, hR⟩ | ⟨r, M', hL, hR⟩
  · refine .inl ⟨M', hL, fun _ => ?_⟩
    have hrun : runN s set = s.size := takeWhile_len (by rw [B_len]; exact Nat.le_refl _) (fun j h _ => hR j h) (fun h => by rw [B_len] at h; omega)
    rw [hrun]
    congr 1
    apply B_inj
    rw [B_extract, List.drop_eq_nil_of_le (by simp [B_len])]
    rfl
  · exact .inr ⟨r, M', hL, fun _ => by rw [hR]⟩

end Go.Proofs.YtabkcbaknjenmaaAM

/-
  THE NODE LAWS: what small functions answer: lex.Name, lex.Number; reference 5's.
-/
set_option linter.unusedVariables false
set_option linter.unusedSimpArgs false
namespace Go.Proofs.YtabkcbaknjenmaaAM
open Go Go.Proofs
set_option maxRecDepth 100000

theorem runN_le (s set : ByteArray) : runN s set ≤ s.size := by
  have := (List.takeWhile_sublist (fun b => (B set).contains b) (l := B s)).length_le
  rw [B_len] at this; exact this
theorem size_extract {s : ByteArray} {k : Nat} (h : k ≤ s.size) : (s.extract k s.size).size = s.size - k := by rw [← B_len, B_extract]; simp [B_len]
theorem sub64 {a b : Nat} (h : b ≤ a) (ha : a < 4611686018427387904) : wrapF .i64 (Int.sub (Int.ofNat a) (Int.ofNat b)) = Int.ofNat (a - b) := by
  have e : Int.sub (Int.ofNat a) (Int.ofNat b) = ((a - b : Nat) : Int) := by show (a : Int) - (b : Int) = _; omega
  rw [e]; exact wrap64 (by omega) (by omega)
theorem add64 {a b : Nat} (h : a + b < 9223372036854775808) : wrapF .i64 (Int.add (Int.ofNat a) (Int.ofNat b)) = Int.ofNat (a + b) := by
  have e : Int.add (Int.ofNat a) (Int.ofNat b) = ((a + b : Nat) : Int) := by show (a : Int) + (b : Int) = _; omega
  rw [e]; exact wrap64 (by omega) (by omega)

theorem run_ret {s set : ByteArray} (hs : Short s) (hset : Ascii (B set)) (M : Mem) : Ret Try.prog 87 [.string s, .string set] M (.int .i64 (Int.ofNat (runN s set))) M := by
  refine Ret.wpToH hP (w87 ⟨_, _, cutLeft_ret hs hset M, ?_, rfl⟩)
  rw [size_extract (runN_le s set), sub64 (by omega) hs]
  have := runN_le s set
  rw [Nat.sub_sub_self this]

def dot (l : List UInt8) : ByteArray := ⟨l.toArray⟩
theorem B_dot (l : List UInt8) : B (dot l) = l := by simp [B, dot]
/-- Does a text begin with another one? -/
def pre (s p : ByteArray) : Bool := (B p).isPrefixOf (B s)
theorem pre_iff {s p : ByteArray} : pre s p = true ↔ p.size ≤ s.size ∧ s.extract 0 p.size = p := by
  rw [pre, List.isPrefixOf_iff_prefix, List.prefix_iff_eq_take, B_len]
  constructor
  · intro h
    have hl : p.size ≤ s.size := by
      have := congrArg List.length h
      simp [B_len] at this; omega
    refine ⟨hl, B_inj ?_⟩
    rw [B_extract, List.drop_zero]; exact h.symm
  · rintro ⟨h1, h2⟩
    have := congrArg B h2
    rw [B_extract, List.drop_zero] at this
    exact this.symm
theorem prefix_ret (s p : ByteArray) (M : Mem) : Ret Try.prog 104 [.string s, .string p] M (.bool (pre s p)) M := by
  refine Ret.wpToH hP (w104 (cnd_of (fun h => ?_) (fun h => ?_)))
  · have h : p.size ≤ s.size := by have := leF_t.1 h; exact Int.ofNat_le.1 this
    refine ⟨_, slice9 rfl (bnd_nat _ _) (Nat.zero_le _) h, ?_, rfl⟩
    congr 1
    rw [Bool.eq_iff_iff, eqS_t, pre_iff]
    exact ⟨fun e => ⟨h, e⟩, fun e => e.2⟩
  · refine ⟨?_, rfl⟩
    congr 1
    symm
    rw [← Bool.not_eq_true, pre_iff]
    have := Int.ofNat_lt.1 (leF_f.1 h)
    intro e; have := e.1; omega
theorem hasPrefix_ret (s p : ByteArray) (M : Mem) : Ret Try.prog 93 [.string s, .string p] M (.bool (pre s p)) M := Ret.wpToH hP (w93 ⟨_, _, prefix_ret s p M, rfl, rfl⟩)
theorem cutPrefix_ret (s p : ByteArray) (M : Mem) : Ret Try.prog 86 [.string s, .string p] M (.tuple #[.string (if pre s p then s.extract p.size s.size else s), .bool (pre s p)]) M := by
  have h104 := prefix_ret s p M
  have h102 : Ret Try.prog 102 [.string s, .string p] M (.tuple #[.string (if pre s p then s.extract p.size s.size else s), .bool (pre s p)]) M := by
    refine Ret.wpToH hP (w102 ⟨_, _, h104, cnd_of (fun h => ?_) (fun h => ?_)⟩)
    · have h : pre s p = false := by simpa using h
      simp [h]
    · have h : pre s p = true := by simpa using h
      have h2 := pre_iff.1 h
      refine ⟨_, slice9 (bnd_nat _ _) rfl h2.1 (Nat.le_refl _), ?_⟩
      simp [h]
  exact Ret.wpToH hP (w86 ⟨_, _, _, h102, rfl, rfl⟩)

end Go.Proofs.YtabkcbaknjenmaaAM

/-
  THE NODE LAWS: what small functions answer: names and numbers, in the program and in reference 5.
-/
set_option linter.unusedVariables false
set_option linter.unusedSimpArgs false
namespace Go.Proofs.YtabkcbaknjenmaaAM
open Go Go.Proofs
set_option maxRecDepth 100000

def letB (n : Nat) : Bool := (decide (97 ≤ n) && decide (n ≤ 122)) || (decide (65 ≤ n) && decide (n ≤ 90))
def digB (n : Nat) : Bool := decide (48 ≤ n) && decide (n ≤ 57)
def innB (n : Nat) : Bool := letB n || digB n || decide (n = 95)
def lettersS : ByteArray := ⟨#[97, 98, 99, 100, 101, 102, 103, 104, 105, 106, 107, 108, 109, 110, 111, 112, 113, 114, 115, 116, 117, 118, 119, 120, 121, 122, 65, 66, 67, 68, 69, 70, 71, 72, 73, 74, 75, 76, 77, 78, 79, 80, 81, 82, 83, 84, 85, 86, 87, 88, 89, 90]⟩
def innerS : ByteArray := ⟨#[97, 98, 99, 100, 101, 102, 103, 104, 105, 106, 107, 108, 109, 110, 111, 112, 113, 114, 115, 116, 117, 118, 119, 120, 121, 122, 65, 66, 67, 68, 69, 70, 71, 72, 73, 74, 75, 76, 77, 78, 79, 80, 81, 82, 83, 84, 85, 86, 87, 88, 89, 90, 48, 49, 50, 51, 52, 53, 54, 55, 56, 57, 95]⟩
def digitsS : ByteArray := ⟨#[48, 49, 50, 51, 52, 53, 54, 55, 56, 57]⟩
theorem byte_all {f g : UInt8 → Bool} (h : ∀ n, n < 256 → f (UInt8.ofNat n) = g (UInt8.ofNat n)) (b : UInt8) : f b = g b := by
  have := h b.toNat b.toNat_lt
  rwa [UInt8.ofNat_toNat] at this
theorem letters_has (b : UInt8) : (B lettersS).contains b = letB b.toNat := byte_all (f := fun b => (B lettersS).contains b) (g := fun b => letB b.toNat) (by decide) b
theorem inner_has (b : UInt8) : (B innerS).contains b = innB b.toNat := byte_all (f := fun b => (B innerS).contains b) (g := fun b => innB b.toNat) (by decide) b
theorem digits_has (b : UInt8) : (B digitsS).contains b = digB b.toNat := byte_all (f := fun b => (B digitsS).contains b) (g := fun b => digB b.toNat) (by decide) b
theorem letters_ascii : Ascii (B lettersS) := by decide
theorem inner_ascii : Ascii (B innerS) := by decide
theorem digits_ascii : Ascii (B digitsS) := by decide

theorem letter_ret (n : Nat) (M : Mem) : Ret Try.prog 94 [.int .u8 n] M (.bool (letB n)) M := by
  refine Ret.wpToH hP (w94 (p0 := n) ?_)
  have h97 : leF (Int.ofNat 97) n = decide (97 ≤ n) := by rw [Bool.eq_iff_iff, leF_t, decide_eq_true_iff]; exact Int.ofNat_le
  have h122 : leF n (Int.ofNat 122) = decide (n ≤ 122) := by rw [Bool.eq_iff_iff, leF_t, decide_eq_true_iff]; exact Int.ofNat_le
  have h65 : leF (Int.ofNat 65) n = decide (65 ≤ n) := by rw [Bool.eq_iff_iff, leF_t, decide_eq_true_iff]; exact Int.ofNat_le
  have h90 : leF n (Int.ofNat 90) = decide (n ≤ 90) := by rw [Bool.eq_iff_iff, leF_t, decide_eq_true_iff]; exact Int.ofNat_le
  rw [h97, h122, h65, h90]
  unfold letB
  cases decide (97 ≤ n) <;> cases decide (n ≤ 122) <;> cases decide (65 ≤ n) <;> cases decide (n ≤ 90) <;> exact ⟨rfl, rfl⟩
theorem digit_ret (n : Nat) (M : Mem) : Ret Try.prog 95 [.int .u8 n] M (.bool (digB n)) M := by
  refine Ret.wpToH hP (w95 (p0 := n) ?_)
  have h1 : leF (Int.ofNat 48) n = decide (48 ≤ n) := by rw [Bool.eq_iff_iff, leF_t, decide_eq_true_iff]; exact Int.ofNat_le
  have h2 : leF n (Int.ofNat 57) = decide (n ≤ 57) := by rw [Bool.eq_iff_iff, leF_t, decide_eq_true_iff]; exact Int.ofNat_le
  rw [h1, h2]
  unfold digB
  cases decide (48 ≤ n) <;> cases decide (n ≤ 57) <;> exact ⟨rfl, rfl⟩

/-- How long the name at the beginning is. -/
def nameN (l : List UInt8) : Nat :=
  match l with
  | [] => 0
  | b :: l => if letB b.toNat then
      let n := ((b :: l).takeWhile fun b => innB b.toNat).length
      if (b :: l)[n]? = some 63 then n + 1 else n
    else 0
theorem nameN_cons {b : UInt8} {l : List UInt8} (h : letB b.toNat = true) : nameN (b :: l) = if (b :: l)[((b :: l).takeWhile fun b => innB b.toNat).length]? = some 63 then ((b :: l).takeWhile fun b => innB b.toNat).length + 1 else ((b :: l).takeWhile fun b => innB b.toNat).length := by simp only [nameN, h, if_true]
/-- Is it a name? -/
def isName (s : ByteArray) : Bool := !(B s).isEmpty && decide (nameN (B s) = s.size)

theorem letB_inn {n : Nat} (h : letB n = true) : innB n = true := by simp [innB, h]
theorem runN_inner (s : ByteArray) : runN s innerS = ((B s).takeWhile fun b => innB b.toNat).length := by
  unfold runN
  congr 2
  funext b
  exact inner_has b
theorem runN_one {s : ByteArray} {b : UInt8} {l : List UInt8} (h : B s = b :: l) : runN (s.extract 0 1) lettersS = if letB b.toNat then 1 else 0 := by
  unfold runN
  rw [B_extract, h]
  simp only [List.take_succ_cons, List.take_zero, List.drop_zero, List.takeWhile_cons, List.takeWhile_nil, letters_has]
  split <;> rfl
theorem B_nil {s : ByteArray} : B s = [] ↔ s = ⟨#[]⟩ := ⟨fun h => B_inj (by rw [h]; rfl), fun h => by rw [h]; rfl⟩
theorem nameN_le (l : List UInt8) : nameN l ≤ l.length := by
  unfold nameN
  split
  · simp
  · rename_i b l
    split
    · have h := (List.takeWhile_sublist (fun b => innB b.toNat) (l := b :: l)).length_le
      simp only
      split
      · rename_i h2
        exact (List.getElem?_eq_some_iff.1 h2).1
      · exact h
    · omega
theorem pre_q (s : ByteArray) (n : Nat) : pre (s.extract n s.size) ⟨#[63]⟩ = decide ((B s)[n]? = some 63) := by
  rw [Bool.eq_iff_iff, decide_eq_true_iff, pre, B_extract, List.take_of_length_le (by rw [B_len]; exact Nat.le_refl _)]
  show [63].isPrefixOf ((B s).drop n) = true ↔ _
  have e : (B s)[n]? = ((B s).drop n)[0]? := by simp
  rw [e]
  cases (B s).drop n with
  | nil => exact ⟨fun h => absurd h (by decide), fun h => absurd h (by simp)⟩
  | cons x l =>
    show ((63 : UInt8) == x && true) = true ↔ some x = some 63
    rw [Bool.and_true, beq_iff_eq, Option.some.injEq]
    exact eq_comm

theorem named_ret {s : ByteArray} (hs : Short s) (M : Mem) : Ret Try.prog 70 [.string s] M (.int .i64 (Int.ofNat (nameN (B s)))) M := by
  refine Ret.wpToH hP (w70 (cnd_of (fun h => ?_) (fun h => ?_)))
  · rw [eqS_t] at h
    rw [h]; exact ⟨rfl, rfl⟩
  · rw [eqS_f] at h
    cases hB : B s with
    | nil => exact absurd (B_nil.1 hB) h
    | cons b l =>
      have h1 : 1 ≤ s.size := by rw [← B_len, hB]; simp
      have hsh : Short (s.extract 0 1) := by
        unfold Short
        rw [← B_len, B_extract]
        simp; omega
      refine ⟨_, slice9 rfl (bnd_nat _ _) (Nat.zero_le _) h1, _, _, run_ret hsh letters_ascii M, ?_⟩
      show cnd (eqF (Int.ofNat (runN (s.extract 0 1) lettersS)) (Int.ofNat 0)) _ _
      rw [runN_one hB]
      refine cnd_of (fun h2 => ?_) (fun h2 => ?_)
      · cases hl : letB b.toNat with
        | true => rw [hl] at h2; simp [eqF_t] at h2
        | false =>
          refine ⟨?_, rfl⟩
          simp [nameN, hl]
      · cases hl : letB b.toNat with
        | false => rw [hl] at h2; simp [eqF_f] at h2
        | true =>
          refine ⟨_, _, run_ret hs inner_ascii M, _, slice9 (bnd_nat _ _) rfl (runN_le _ _) (Nat.le_refl _), _, _, hasPrefix_ret _ _ M, ?_⟩
          rw [pre_q, runN_inner, hB]
          have hle := runN_le s innerS
          rw [runN_inner, hB] at hle
          unfold Short at hs
          refine cnd_of (fun h3 => ?_) (fun h3 => ?_)
          · rw [decide_eq_true_iff] at h3
            refine ⟨?_, rfl⟩
            rw [add64 (by omega)]
            simp only [nameN, hl, if_true]
            rw [if_pos h3]
          · rw [decide_eq_false_iff_not] at h3
            refine ⟨?_, rfl⟩
            simp only [nameN, hl, if_true]
            rw [if_neg h3]

theorem lexName_ret {s : ByteArray} (hs : Short s) (M : Mem) : Ret Try.prog 37 [.string s] M (.bool (isName s)) M := by
  refine Ret.wpToH hP (w37 (cnd_of (fun h => ?_) (fun h => ?_)))
  · have h : s ≠ ⟨#[]⟩ := by rw [← eqS_f]; simpa using h
    have h2 : (B s).isEmpty = false := by
      cases hB : B s with
      | nil => exact absurd (B_nil.1 hB) h
      | cons => rfl
    refine ⟨_, _, named_ret hs M, ?_, rfl⟩
    congr 1
    simp only [isName, h2, Bool.not_false, Bool.true_and]
    rw [Bool.eq_iff_iff, eqF_t, decide_eq_true_iff]
    exact Int.ofNat_inj
  · have h : s = ⟨#[]⟩ := by rw [← eqS_t]; simpa using h
    refine ⟨?_, rfl⟩
    rw [h]; rfl

/-! ### Reference 5's name -/
theorem ref_name_ret {s : ByteArray} (hs : Short s) (M : Mem) : Ret Try.prog 72 [.string s, .int .i64 (Int.ofNat 0)] M (.int .i64 (Int.ofNat (nameN (B s)))) M := by
  refine Ret.wpToH hP (w72 (cnd_of (fun h => ?_) (fun h => ?_)))
  · have h := Int.ofNat_le.1 (leF_t.1 h)
    have h0 : B s = [] := List.eq_nil_of_length_eq_zero (by rw [B_len]; omega)
    rw [h0]; exact ⟨rfl, rfl⟩
  · have h := Int.ofNat_lt.1 (leF_f.1 h)
    cases hB : B s with
    | nil => rw [← B_len, hB] at h; simp at h
    | cons b l =>
      have hb0 : (B s)[0]'(by rw [B_len]; exact h) = b := by simp [hB]
      refine ⟨_, index9 (k := 0) rfl h, _, _, letter_ret _ M, ?_⟩
      rw [hb0]
      refine cnd_of (fun h2 => ?_) (fun h2 => ?_)
      · have h2 : letB b.toNat = false := by simpa using h2
        refine ⟨?_, rfl⟩
        simp [nameN, h2]
      · have h2 : letB b.toNat = true := by simpa using h2
        unfold Short at hs
        intro t0 hT
        obtain ⟨ot, M', hL, hR⟩ := loop72_0 (ut0 := s) (ut1 := Int.ofNat 0) (d := []) (rc := false)
          (Inv := fun n t M1 => M1 = M ∧ ∃ k : Nat, t = k ∧ k ≤ s.size ∧ n = s.size - k ∧ ∀ j (h : j < (B s).length), j < k → innB (B s)[j].toNat = true)
          (R0 := fun t M1 => M1 = M ∧ ∃ k : Nat, t = k ∧ k ≤ s.size ∧ (∀ j (h : j < (B s).length), j < k → innB (B s)[j].toNat = true) ∧ (∀ (h : k < (B s).length), innB (B s)[k].toNat = false))
          (step := by
            rintro n t M1 ⟨rfl, k, rfl, hk, hn, hall⟩
            refine cnd_of (fun h3 => ?_) (fun h3 => ?_)
            · have h3 : k < s.size := by
                have : leF (Int.ofNat s.size) k = false := by simpa using h3
                exact Int.ofNat_lt.1 (leF_f.1 this)
              have hkB : k < (B s).length := by rw [B_len]; exact h3
              have next : innB ((B s)[k]).toNat = true → ∃ m, m < n ∧ M1 = M1 ∧ ∃ k', wrapF .i64 (Int.add k (Int.ofNat 1)) = Int.ofNat k' ∧ k' ≤ s.size ∧ m = s.size - k' ∧ ∀ j (h : j < (B s).length), j < k' → innB (B s)[j].toNat = true := by
                intro hi
                refine ⟨s.size - (k + 1), by omega, rfl, k + 1, add64 (by omega), h3, rfl, fun j hj hjk => ?_⟩
                rcases Nat.lt_or_ge j k with h' | h'
                · exact hall j hj h'
                · have : j = k := by omega
                  subst this; exact hi
              refine ⟨_, index9 rfl h3, _, _, letter_ret _ M1, cnd_of (fun hl => next (letB_inn hl)) (fun hl => ?_)⟩
              refine ⟨_, index9 rfl h3, _, _, digit_ret _ M1, cnd_of (fun hd => next (by simp [innB, hd])) (fun hd => ?_)⟩
              refine ⟨_, index9 rfl h3, cnd_of (fun hu => next ?_) (fun hu => ?_)⟩
              · have := Int.ofNat.inj (eqF_t.1 hu)
                simp [innB, this]
              · have : ((B s)[k]).toNat ≠ 95 := fun e => eqF_f.1 hu (by rw [e]; rfl)
                exact ⟨rfl, k, rfl, hk, hall, fun _ => by simp [innB, hl, hd, this]⟩
            · have h3 : ¬ k < s.size := by
                intro hlt
                have : leF (Int.ofNat s.size) k = true := by simpa using h3
                have := Int.ofNat_le.1 (leF_t.1 this)
                omega
              exact ⟨rfl, k, rfl, hk, hall, fun h4 => by rw [B_len] at h4; omega⟩)
          (n := s.size - 1) (t5 := wrapF .i64 (Int.add (Int.ofNat 0) (Int.ofNat 1)))
          ⟨rfl, 1, add64 (by omega), h, rfl, fun j hj hj1 => by
            have : j = 0 := by omega
            subst this
            rw [hb0]; exact letB_inn h2⟩ hT
        refine ⟨ot, M', hL, fun _ => ?_⟩
        obtain ⟨rfl, k, rfl, hk, hall, hend⟩ := hR
        have hkt : ((B s).takeWhile fun b => innB b.toNat).length = k := takeWhile_len (by rw [B_len]; exact hk) hall hend
        have hnm : nameN (b :: l) = if (B s)[k]? = some 63 then k + 1 else k := by
          rw [nameN_cons h2, ← hB, hkt]
        rw [hnm]
        refine cnd_of (fun h3 => ?_) (fun h3 => ?_)
        · have h3 : k < s.size := by
            have : leF (Int.ofNat s.size) k = false := by simpa using h3
            exact Int.ofNat_lt.1 (leF_f.1 this)
          have hkB : k < (B s).length := by rw [B_len]; exact h3
          refine ⟨_, index9 rfl h3, ?_⟩
          rw [List.getElem?_eq_getElem hkB]
          refine cnd_of (fun h4 => ?_) (fun h4 => ?_)
          · have h4 := Int.ofNat.inj (eqF_t.1 h4)
            have h5 : (B s)[k] = 63 := UInt8.toNat_inj.1 h4
            refine ⟨?_, rfl⟩
            rw [h5, if_pos rfl]
            have e1 : wrapF .i64 (Int.add (k : Int) (Int.ofNat 1)) = Int.ofNat (k + 1) := add64 (by omega)
            rw [e1, sub64 (Nat.zero_le _) (by omega)]; rfl
          · have h5 : (B s)[k] ≠ 63 := fun e => eqF_f.1 h4 (by rw [e]; rfl)
            refine ⟨?_, rfl⟩
            rw [if_neg (fun e => h5 (Option.some.inj e))]
            have e1 : wrapF .i64 (Int.sub (k : Int) (Int.ofNat 0)) = Int.ofNat (k - 0) := sub64 (Nat.zero_le _) (by omega)
            rw [e1]; rfl
        · have h3 : ¬ k < s.size := by
            intro hlt
            have : leF (Int.ofNat s.size) k = true := by simpa using h3
            have := Int.ofNat_le.1 (leF_t.1 this)
            omega
          refine ⟨?_, rfl⟩
          rw [List.getElem?_eq_none (by rw [B_len]; omega)]
          have e1 : wrapF .i64 (Int.sub (k : Int) (Int.ofNat 0)) = Int.ofNat (k - 0) := sub64 (Nat.zero_le _) (by omega)
          rw [e1]; rfl

theorem refName_ret {s : ByteArray} (hs : Short s) (M : Mem) : Ret Try.prog 40 [.string s] M (.bool (isName s)) M := by
  refine Ret.wpToH hP (w40 (cnd_of (fun h => ?_) (fun h => ?_)))
  · have h : s ≠ ⟨#[]⟩ := by rw [← eqS_f]; simpa using h
    have h2 : (B s).isEmpty = false := by
      cases hB : B s with
      | nil => exact absurd (B_nil.1 hB) h
      | cons => rfl
    refine ⟨_, _, ref_name_ret hs M, ?_, rfl⟩
    congr 1
    simp only [isName, h2, Bool.not_false, Bool.true_and]
    rw [Bool.eq_iff_iff, eqF_t, decide_eq_true_iff]
    exact Int.ofNat_inj
  · have h : s = ⟨#[]⟩ := by rw [← eqS_t]; simpa using h
    refine ⟨?_, rfl⟩
    rw [h]; rfl

end Go.Proofs.YtabkcbaknjenmaaAM

/-
  THE NODE LAWS: what small functions answer: numbers, in the program and in reference 5.
-/
set_option linter.unusedVariables false
set_option linter.unusedSimpArgs false
namespace Go.Proofs.YtabkcbaknjenmaaAM
open Go Go.Proofs
set_option maxRecDepth 100000

theorem cnd_t' {c : Bool} {A B : Prop} (hc : c = true) (h : A) : cnd c A B := by subst hc; exact h
theorem cnd_f' {c : Bool} {A B : Prop} (hc : c = false) (h : B) : cnd c A B := by subst hc; exact h
/-- Digits, one at least, without a 0 ahead of others; -0 is none. -/
def isNumber (s : ByteArray) : Bool :=
  let minus := (B s).head? == some 45
  let rest := if minus then (B s).drop 1 else B s
  !rest.isEmpty && rest.all (fun b => digB b.toNat) && (rest.head? != some 48 || (rest == [48] && !minus))

theorem takeWhile_all {p : UInt8 → Bool} : ∀ {l : List UInt8}, decide ((l.takeWhile p).length = l.length) = l.all p
  | [] => rfl
  | x :: l => by
    rw [List.takeWhile_cons, List.all_cons]
    cases hp : p x with
    | true => rw [if_pos rfl, Bool.true_and, ← takeWhile_all (l := l)]; simp
    | false => simp
theorem runN_digits (s : ByteArray) : runN s digitsS = ((B s).takeWhile fun b => digB b.toNat).length := by
  unfold runN
  congr 2
  funext b
  exact digits_has b
theorem pre_minus (s : ByteArray) : pre s ⟨#[45]⟩ = ((B s).head? == some 45) := by
  rw [pre]
  cases B s with
  | nil => rfl
  | cons x l =>
    show ((45 : UInt8) == x && true) = (some x == some 45)
    rw [Bool.and_true, Bool.eq_iff_iff]
    simp only [beq_iff_eq, Option.some.injEq]
    exact eq_comm
theorem isEmpty_of {s : ByteArray} (h : s ≠ ⟨#[]⟩) : (B s).isEmpty = false := by
  cases hB : B s with
  | nil => exact absurd (B_nil.1 hB) h
  | cons => rfl
theorem B_restOf (s : ByteArray) : B (if pre s ⟨#[45]⟩ then s.extract (⟨#[45]⟩ : ByteArray).size s.size else s) = if (B s).head? == some 45 then (B s).drop 1 else B s := by
  rw [pre_minus]
  split
  · rw [B_extract, List.take_of_length_le (by rw [B_len]; exact Nat.le_refl _)]; rfl
  · rfl

theorem lexNumber_ret {s : ByteArray} (hs : Short s) (M : Mem) : Ret Try.prog 58 [.string s] M (.bool (isNumber s)) M := by
  refine Ret.wpToH hP (w58 ⟨_, _, _, cutPrefix_ret s ⟨#[45]⟩ M, ?_⟩)
  have hB := B_restOf s
  have hshort : Short (if pre s ⟨#[45]⟩ then s.extract (⟨#[45]⟩ : ByteArray).size s.size else s) := by
    unfold Short at *
    rw [← B_len, hB]
    split
    · rw [List.length_drop, B_len]; omega
    · rw [B_len]; exact hs
  generalize (if pre s ⟨#[45]⟩ then s.extract (⟨#[45]⟩ : ByteArray).size s.size else s) = r at hB hshort
  unfold isNumber
  dsimp only
  rw [← hB, pre_minus]
  refine cnd_of (fun h => ?_) (fun h => ?_)
  · rw [eqS_t] at h
    refine ⟨?_, rfl⟩
    rw [h]; rfl
  · rw [eqS_f] at h
    rw [isEmpty_of h]
    refine ⟨_, _, run_ret hshort digits_ascii M, ?_⟩
    rw [runN_digits]
    have hall := takeWhile_all (p := fun b => digB b.toNat) (l := B r)
    rw [B_len] at hall
    refine cnd_of (fun h2 => ?_) (fun h2 => ?_)
    · have h2 : ((B r).takeWhile fun b => digB b.toNat).length ≠ r.size := by
        intro e
        rw [e] at h2
        have : eqF (Int.ofNat r.size) (Int.ofNat r.size) = true := eqF_t.2 rfl
        rw [this] at h2; simp at h2
      refine ⟨?_, rfl⟩
      rw [← hall, decide_eq_false h2]; simp
    · have h2 : ((B r).takeWhile fun b => digB b.toNat).length = r.size := by
        have : eqF (Int.ofNat ((B r).takeWhile fun b => digB b.toNat).length) (Int.ofNat r.size) = true := by simpa using h2
        exact Int.ofNat.inj (eqF_t.1 this)
      rw [← hall, decide_eq_true h2]
      cases hr : B r with
      | nil => exact absurd (B_nil.1 hr) h
      | cons b l =>
        have hlt : 0 < r.size := by rw [← B_len, hr]; simp
        have hb0 : (B r)[0]'(by rw [B_len]; exact hlt) = b := by simp [hr]
        refine ⟨_, index9 (k := 0) rfl hlt, ?_⟩
        rw [hb0]
        refine cnd_of (fun h3 => ?_) (fun h3 => ?_)
        · have h3 : b ≠ 48 := by
            intro e; subst e
            revert h3; decide
          refine ⟨?_, rfl⟩
          have h4 : (some b != some 48) = true := by simp [bne, h3]
          simp only [List.head?_cons, h4, List.isEmpty_cons, Bool.not_false, Bool.true_or, Bool.and_true]
        · have h3 : b = 48 := by
            have : eqF (b.toNat : Int) (Int.ofNat 48) = true := by simpa using h3
            exact UInt8.toNat_inj.1 (Int.ofNat.inj (eqF_t.1 this))
          subst h3
          refine cnd_of (fun h4 => ?_) (fun h4 => ?_)
          · rw [eqS_t] at h4
            have h5 : B r = [48] := by rw [h4]; rfl
            rw [hr] at h5
            refine ⟨?_, rfl⟩
            rw [h5]; simp
          · rw [eqS_f] at h4
            have h5 : B r ≠ [48] := fun e => h4 (B_inj e)
            rw [hr] at h5
            refine ⟨?_, rfl⟩
            have : ((48 :: l : List UInt8) == [48]) = false := by rw [← Bool.not_eq_true, beq_iff_eq]; exact h5
            rw [this]; simp

/-! ### Reference 5's number -/
def DInv (s : ByteArray) (f : Nat) (M : Mem) (n : Nat) (t : Int) (M1 : Mem) : Prop := M1 = M ∧ ∃ k : Nat, t = Int.ofNat k ∧ f ≤ k ∧ k ≤ s.size ∧ n = s.size - k ∧ ∀ j (h : j < (B s).length), f ≤ j → j < k → digB (B s)[j].toNat = true
def DOut (s : ByteArray) (f : Nat) (M : Mem) (t : Int) (M1 : Mem) : Prop := M1 = M ∧ ∃ k : Nat, t = Int.ofNat k ∧ f ≤ k ∧ k ≤ s.size ∧ k - f = (((B s).drop f).takeWhile fun b => digB b.toNat).length
theorem dstep {s : ByteArray} (hs : Short s) (f : Nat) (M : Mem) : ∀ (n : Nat) (t5 : Int) (M1 : Mem), DInv s f M n t5 M1 →
    cnd (!leF (Int.ofNat (ByteArray.size s)) t5)
      (∃ (i0 : Int), (indexA Try.prog 9 (.string s) (.int .i64 t5) = some (.int .u8 i0)) ∧ ∃ (b1 : Bool), ∃ (M2 : Mem), (Ret Try.prog 95 [.int .u8 i0] M1 (.bool b1) M2) ∧ cnd (b1)
        (∃ m, m < n ∧ DInv s f M m (wrapF .i64 (Int.add t5 (Int.ofNat 1))) (M2))
        (DOut s f M (t5) (M2)))
      (DOut s f M (t5) (M1)) := by
  rintro n t M1 ⟨rfl, k, rfl, hf, hk, hn, hall⟩
  unfold Short at hs
  have out : (∀ (h : k < (B s).length), digB (B s)[k].toNat = false) → k - f = (((B s).drop f).takeWhile fun b => digB b.toNat).length := by
    intro he
    symm
    refine takeWhile_len (by rw [List.length_drop, B_len]; omega) (fun j h hj => ?_) (fun h => ?_)
    · rw [List.getElem_drop]
      exact hall _ _ (by omega) (by omega)
    · rw [List.getElem_drop]
      have := he (by rw [List.length_drop] at h; omega)
      have e : f + (k - f) = k := by omega
      simp only [e]; exact this
  refine cnd_of (fun h3 => ?_) (fun h3 => ?_)
  · have h3 : k < s.size := by
      have : leF (Int.ofNat s.size) (Int.ofNat k) = false := by simpa using h3
      exact Int.ofNat_lt.1 (leF_f.1 this)
    have hkB : k < (B s).length := by rw [B_len]; exact h3
    refine ⟨_, index9 rfl h3, _, _, digit_ret _ M1, cnd_of (fun hd => ⟨s.size - (k + 1), by omega, rfl, k + 1, add64 (by omega), by omega, h3, rfl, fun j hj hfj hjk => ?_⟩) (fun hd => ⟨rfl, k, rfl, hf, hk, out fun _ => hd⟩)⟩
    rcases Nat.lt_or_ge j k with h' | h'
    · exact hall j hj hfj h'
    · have : j = k := by omega
      subst this; exact hd
  · have h3 : ¬ k < s.size := by
      intro hlt
      have : leF (Int.ofNat s.size) (Int.ofNat k) = true := by simpa using h3
      have := Int.ofNat_le.1 (leF_t.1 this)
      omega
    exact ⟨rfl, k, rfl, hf, hk, out fun h => by rw [B_len] at h; omega⟩

def numN (l : List UInt8) : Nat :=
  let m := if l.head? == some 45 then 1 else 0
  let k := ((l.drop m).takeWhile fun b => digB b.toNat).length
  if k = 0 then 0 else m + k

theorem ref_number_ret {s : ByteArray} (hs : Short s) (hne : 0 < s.size) (M : Mem) : Ret Try.prog 92 [.string s, .int .i64 (Int.ofNat 0)] M (.int .i64 (Int.ofNat (numN (B s)))) M := by
  have hs' := hs
  unfold Short at hs'
  refine Ret.wpToH hP (w92 (cnd_t' ?_ ?_))
  · rw [leF_f.2 (show Int.ofNat 0 < Int.ofNat s.size from Int.ofNat_lt.2 hne)]; rfl
  · cases hB : B s with
    | nil => rw [← B_len, hB] at hne; simp at hne
    | cons b l =>
      have hb0 : (B s)[0]'(by rw [B_len]; exact hne) = b := by simp [hB]
      refine ⟨_, index9 (k := 0) rfl hne, ?_⟩
      rw [hb0]
      refine cnd_of (fun h => ?_) (fun h => ?_)
      · have hb : b = 45 := UInt8.toNat_inj.1 (Int.ofNat.inj (eqF_t.1 h))
        intro t0 hT
        obtain ⟨ot, M', hL, rfl, k, rfl, hf, hk, he⟩ := loop92_0 (ut0 := s) (ut1 := Int.ofNat 0) (d := []) (rc := false) (ut6 := wrapF .i64 (Int.add (Int.ofNat 0) (Int.ofNat 1))) (Inv := DInv s 1 M) (R0 := DOut s 1 M) (dstep hs 1 M)
          (n := s.size - 1) (t5 := wrapF .i64 (Int.add (Int.ofNat 0) (Int.ofNat 1))) ⟨rfl, 1, add64 (by omega), Nat.le_refl _, hne, rfl, fun j _ h1 h2 => by omega⟩ hT
        refine ⟨_, _, hL, fun _ => ?_⟩
        have e1 : wrapF .i64 (Int.add (Int.ofNat 0) (Int.ofNat 1)) = Int.ofNat 1 := add64 (by omega)
        have hnum : numN (b :: l) = if k = 1 then 0 else k := by
          rw [hB] at he
          simp only [numN, hb, List.head?_cons, beq_self_eq_true, if_true]
          rw [hb] at he
          rw [← he]
          by_cases h1 : k = 1
          · rw [if_pos h1, if_pos (by omega)]
          · rw [if_neg h1, if_neg (by omega)]; omega
        rw [hnum, e1]
        refine cnd_of (fun h2 => ?_) (fun h2 => ?_)
        · have := Int.ofNat.inj (eqF_t.1 h2)
          rw [if_pos this]; exact ⟨rfl, rfl⟩
        · have : k ≠ 1 := fun e => eqF_f.1 h2 (by rw [e])
          rw [if_neg this, sub64 (Nat.zero_le _) (by omega)]; exact ⟨rfl, rfl⟩
      · have hb : b ≠ 45 := fun e => eqF_f.1 h (by rw [e]; rfl)
        intro t0 hT
        obtain ⟨ot, M', hL, rfl, k, rfl, hf, hk, he⟩ := loop92_0 (ut0 := s) (ut1 := Int.ofNat 0) (d := []) (rc := false) (ut6 := Int.ofNat 0) (Inv := DInv s 0 M) (R0 := DOut s 0 M) (dstep hs 0 M)
          (n := s.size) (t5 := Int.ofNat 0) ⟨rfl, 0, rfl, Nat.le_refl _, Nat.zero_le _, rfl, fun j _ h1 h2 => by omega⟩ hT
        refine ⟨_, _, hL, fun _ => ?_⟩
        have hnum : numN (b :: l) = k := by
          rw [hB] at he
          have hh : ((b :: l).head? == some 45) = false := by rw [← Bool.not_eq_true, beq_iff_eq]; exact fun e => hb (Option.some.inj e)
          simp only [numN, hh, Bool.false_eq_true, if_false]
          rw [← he]
          by_cases h1 : k = 0
          · rw [if_pos (by omega)]; omega
          · rw [if_neg (by omega)]; omega
        rw [hnum]
        refine cnd_of (fun h2 => ?_) (fun h2 => ?_)
        · have := Int.ofNat.inj (eqF_t.1 h2)
          rw [this]; exact ⟨rfl, rfl⟩
        · rw [sub64 (Nat.zero_le _) (by omega)]; exact ⟨rfl, rfl⟩

theorem refNumber_ret {s : ByteArray} (hs : Short s) (M : Mem) : Ret Try.prog 67 [.string s] M (.bool (isNumber s)) M := by
  refine Ret.wpToH hP (w67 (cnd_of (fun h => ?_) (fun h => ?_)))
  · rw [eqS_t] at h
    rw [h]; exact ⟨rfl, rfl⟩
  · rw [eqS_f] at h
    have hne : 0 < s.size := by
      rcases Nat.eq_zero_or_pos s.size with h0 | h0
      · exact absurd (B_nil.1 (List.eq_nil_of_length_eq_zero (by rw [B_len]; exact h0))) h
      · exact h0
    refine ⟨_, _, ref_number_ret hs hne M, ?_⟩
    cases hB : B s with
    | nil => exact absurd (B_nil.1 hB) h
    | cons b l =>
      have hsz : s.size = l.length + 1 := by rw [← B_len, hB]; rfl
      have hb0 : (B s)[0]'(by rw [B_len]; exact hne) = b := by simp [hB]
      by_cases hb : b = 45
      · subst hb
        have hnum : numN (45 :: l) = if (l.takeWhile fun b => digB b.toNat).length = 0 then 0 else 1 + (l.takeWhile fun b => digB b.toNat).length := by simp [numN]
        have hisn : isNumber s = (!l.isEmpty && l.all (fun b => digB b.toNat) && (l.head? != some 48)) := by
          unfold isNumber; rw [hB]; simp
        have hall := takeWhile_all (p := fun b => digB b.toNat) (l := l)
        rw [hnum, hisn, ← hall]
        refine cnd_of (fun h2 => ?_) (fun h2 => ?_)
        · refine ⟨?_, rfl⟩
          cases l with
          | nil => rfl
          | cons c l =>
            have h3 : ((c :: l).takeWhile fun b => digB b.toNat).length ≠ (c :: l).length := by
              intro e
              rw [e] at h2
              rw [if_neg (by simp), hsz] at h2
              have : eqF (Int.ofNat (1 + (c :: l).length)) (Int.ofNat ((c :: l).length + 1)) = true := eqF_t.2 (by rw [Nat.add_comm])
              rw [this] at h2; simp at h2
            rw [decide_eq_false h3]; simp
        · have h2' : eqF (Int.ofNat (if (l.takeWhile fun b => digB b.toNat).length = 0 then 0 else 1 + (l.takeWhile fun b => digB b.toNat).length)) (Int.ofNat s.size) = true := by simpa using h2
          have h3 := Int.ofNat.inj (eqF_t.1 h2')
          have h4 : (l.takeWhile fun b => digB b.toNat).length = l.length ∧ l.length ≠ 0 := by
            rw [hsz] at h3
            split at h3
            · omega
            · omega
          rw [decide_eq_true h4.1]
          refine ⟨_, index9 (k := 0) rfl hne, ?_⟩
          rw [hb0]
          refine cnd_t ?_
          cases l with
          | nil => simp at h4
          | cons c l =>
            have h1 : 1 < s.size := by rw [hsz]; simp
            have hb1 : (B s)[1]'(by rw [B_len]; exact h1) = c := by simp [hB]
            refine ⟨_, index9 (k := 1) rfl h1, ?_, rfl⟩
            rw [hb1]
            congr 1
            simp only [List.isEmpty_cons, Bool.not_false, Bool.true_and, List.head?_cons]
            rw [Bool.eq_iff_iff]
            simp only [Bool.not_eq_true', eqF_f, bne_iff_ne, ne_eq, Option.some.injEq]
            exact not_congr ⟨fun e => UInt8.toNat_inj.1 (Int.ofNat.inj e), fun e => by rw [e]; rfl⟩
      · have hh : ((b :: l).head? == some 45) = false := by rw [← Bool.not_eq_true, beq_iff_eq]; exact fun e => hb (Option.some.inj e)
        have hnum : numN (b :: l) = ((b :: l).takeWhile fun b => digB b.toNat).length := by
          simp only [numN, hh, Bool.false_eq_true, if_false, List.drop_zero]
          split
          · rename_i h0; exact h0.symm
          · omega
        have hisn : isNumber s = ((b :: l).all (fun b => digB b.toNat) && (b != 48 || (b :: l) == [48])) := by
          unfold isNumber; rw [hB]; simp only [hh]; simp [bne]
        have hall := takeWhile_all (p := fun b => digB b.toNat) (l := b :: l)
        rw [hnum, hisn, ← hall]
        refine cnd_of (fun h2 => ?_) (fun h2 => ?_)
        · refine ⟨?_, rfl⟩
          have h3 : ((b :: l).takeWhile fun b => digB b.toNat).length ≠ (b :: l).length := by
            intro e
            rw [e] at h2
            have : eqF (Int.ofNat (b :: l).length) (Int.ofNat s.size) = true := eqF_t.2 (by rw [hsz]; rfl)
            rw [this] at h2; simp at h2
          rw [decide_eq_false h3]; simp
        · have h2' : eqF (Int.ofNat ((b :: l).takeWhile fun b => digB b.toNat).length) (Int.ofNat s.size) = true := by simpa using h2
          have h3 : ((b :: l).takeWhile fun b => digB b.toNat).length = (b :: l).length := by rw [Int.ofNat.inj (eqF_t.1 h2'), hsz]; rfl
          rw [decide_eq_true h3]
          refine ⟨_, index9 (k := 0) rfl hne, ?_⟩
          rw [hb0]
          refine cnd_f' ?_ ?_
          · exact eqF_f.2 fun e => hb (UInt8.toNat_inj.1 (Int.ofNat.inj e))
          · refine cnd_of (fun h4 => ?_) (fun h4 => ?_)
            · rw [eqS_t] at h4
              have h5 : B s = [48] := by rw [h4]; rfl
              rw [hB] at h5
              refine ⟨?_, rfl⟩
              rw [h5]; simp
            · rw [eqS_f] at h4
              have h5 : B s ≠ [48] := fun e => h4 (B_inj e)
              rw [hB] at h5
              refine ⟨_, index9 (k := 0) rfl hne, ?_, rfl⟩
              rw [hb0]
              have : ((b :: l : List UInt8) == [48]) = false := by rw [← Bool.not_eq_true, beq_iff_eq]; exact h5
              rw [this]
              congr 1
              rw [Bool.eq_iff_iff]
              simp only [Bool.not_eq_true', eqF_f, bne_iff_ne, ne_eq, Bool.or_false, Bool.true_and, decide_true]
              exact not_congr ⟨fun e => UInt8.toNat_inj.1 (Int.ofNat.inj e), fun e => by rw [e]; rfl⟩

end Go.Proofs.YtabkcbaknjenmaaAM

/-
  THE NODE LAWS: what small functions answer: is a text one of some; names that may be bound.
-/
set_option linter.unusedVariables false
set_option linter.unusedSimpArgs false
namespace Go.Proofs.YtabkcbaknjenmaaAM
open Go Go.Proofs
set_option maxRecDepth 100000

/-! ### Cells -/
/-- A cell of memory. -/
def cellAt (M : Mem) (x o : Nat) : Option Value :=
  match M[x]? with
  | some (.cells vs _ m) => if m = .dead then none else vs[o]?
  | _ => none
theorem rd_of_cell {ty : TypeId} (hk : (kindT Try.prog ty).map aggK = some false) {M : Mem} {x o : Nat} {v : Value} (h : cellAt M x o = some v) : rdVar Try.prog M ty x o = some v := by
  unfold cellAt at h
  unfold rdVar
  cases hk' : kindT Try.prog ty with
  | none => rw [hk'] at hk; simp at hk
  | some k =>
    rw [hk'] at hk
    simp only [Option.map_some, Option.some.injEq] at hk
    simp only [Option.bind_some, hk]
    unfold rdCells
    split at h
    · rename_i vs u m hM
      rw [hM]
      split at h
      · simp at h
      · rename_i hm
        obtain ⟨hlt, hv⟩ := List.getElem?_eq_some_iff.1 h
        rw [if_neg (show ¬ (false = true) by simp)]
        dsimp only
        rw [if_neg (show ¬ (m = .dead ∨ vs.length < o + 1) by rw [not_or]; exact ⟨hm, by omega⟩)]
        simp [List.head?_drop, h, List.head?_take]
    · simp at h
theorem cell_app {M G : Mem} {x o : Nat} {v : Value} (h : cellAt M x o = some v) : cellAt (M ++ G) x o = some v := by
  unfold cellAt at h ⊢
  cases hM : M[x]? with
  | none => rw [hM] at h; simp at h
  | some ob =>
    rw [List.getElem?_append_left (List.getElem?_eq_some_iff.1 hM).1]
    exact h
theorem cell_new {M G : Mem} {vs : List Value} {u : Nat} {m : Mode} (hm : m ≠ .dead) (o : Nat) : cellAt (M ++ .cells vs u m :: G) M.length o = vs[o]? := by
  unfold cellAt
  rw [List.getElem?_append_right (Nat.le_refl _)]
  simp [hm]
/-- A row of cells: values one behind the other. -/
def Row (M : Mem) (a : Option Addr) (l : List Value) : Prop := l = [] ∨ ∃ x o, a = some ⟨x, o, none⟩ ∧ ∀ k (h : k < l.length), cellAt M x (o + k) = some l[k]
theorem Row.app {M G : Mem} {a : Option Addr} {l : List Value} (h : Row M a l) : Row (M ++ G) a l := by
  rcases h with h | ⟨x, o, h1, h2⟩
  · exact .inl h
  · exact .inr ⟨x, o, h1, fun k hk => cell_app (h2 k hk)⟩
theorem Row.new (M : Mem) (l : List Value) (G : Mem) : Row (M ++ .cells l 1 .live :: G) (some ⟨M.length, 0, none⟩) l :=
  .inr ⟨_, _, rfl, fun k hk => by rw [Nat.zero_add, cell_new (by decide)]; exact List.getElem?_eq_getElem hk⟩
theorem idx_of {ty e : TypeId} {size : Nat} (he : elemT Try.prog ty = some e) (hs : sizeT Try.prog e = some size) {x o n c k : Nat} {i : Int} {kk : IntKind} (hi : i = Int.ofNat k) (hk : k < n) :
    idxA Try.prog ty (.slice (some ⟨x, o, none⟩) n c) (.int kk i) = some (.pointer (some ⟨x, o + k * size, none⟩)) := by
  subst hi
  unfold idxA
  simp only [he, hs, Option.bind_some]
  have h1 : (0 : Int) ≤ Int.ofNat k ∧ Int.ofNat k < (n : Int) := ⟨Int.natCast_nonneg k, Int.ofNat_lt.2 hk⟩
  rw [if_pos h1]; rfl

/-! ### Texts in a row -/
def strs (l : List ByteArray) : List Value := l.map .string
theorem idx53 {x o n c k : Nat} {i : Int} (hi : i = Int.ofNat k) (hk : k < n) : idxA Try.prog 53 (.slice (some ⟨x, o, none⟩) n c) (.int .i64 i) = some (.pointer (some ⟨x, o + k, none⟩)) := by
  have := idx_of (ty := 53) (e := 9) (size := 1) (by kernel_rfl) (by kernel_rfl) (x := x) (o := o) (n := n) (c := c) (kk := .i64) hi hk
  rwa [Nat.mul_one] at this
theorem rd9 {M : Mem} {x o : Nat} {v : Value} (h : cellAt M x o = some v) : rdVar Try.prog M 9 x o = some v := rd_of_cell (by kernel_rfl) h
theorem strs_at {M : Mem} {a : Option Addr} {l : List ByteArray} (h : Row M a (strs l)) {k : Nat} (hk : k < l.length) {c : Nat} {i : Int} (hi : i = Int.ofNat k) :
    ∃ x o, idxA Try.prog 53 (.slice a l.length c) (.int .i64 i) = some (.pointer (some ⟨x, o, none⟩)) ∧ rdVar Try.prog M 9 x o = some (.string l[k]) := by
  rcases h with h | ⟨x, o, rfl, h2⟩
  · simp [strs] at h; subst h; simp at hk
  · refine ⟨x, o + k, idx53 hi hk, rd9 ?_⟩
    have := h2 k (by simpa [strs] using hk)
    rw [this]; simp [strs]

def has (l : List ByteArray) (s : ByteArray) : Bool := l.any fun x => eqS s x
theorem has_mem {l : List ByteArray} {s : ByteArray} : has l s = true ↔ s ∈ l := by
  simp only [has, List.any_eq_true, eqS_t]
  exact ⟨fun ⟨x, h1, h2⟩ => h2 ▸ h1, fun h => ⟨s, h, rfl⟩⟩

/-- Where a text is first, or -1. -/
theorem index_ret {a : Option Addr} {l : List ByteArray} {c : Nat} {s : ByteArray} {M : Mem} (h : Row M a (strs l)) (hl : l.length < 4611686018427387904) :
    ∃ i : Int, Ret Try.prog 71 [.slice a l.length c, .string s] M (.int .i64 i) M ∧ leF (Int.ofNat 0) i = has l s := by
  have key := Ret.wpH hP (K := fun v M' => M' = M ∧ ∃ i, v = .int .i64 i ∧ leF (Int.ofNat 0) i = has l s) (w71 (p0 := a) (p0n := l.length) (p0c := c) (p1 := s) (M := M) (by
    intro t0 hT
    rcases loop71_0 (ut0 := a) (ut0n := l.length) (ut0c := c) (ut1 := s) (ut7 := Int.ofNat l.length) (d := []) (rc := false)
      (Inv := fun n t M1 => M1 = M ∧ ∃ k : Nat, t = Int.ofNat k ∧ k ≤ l.length ∧ n = l.length - k ∧ ∀ j (h : j < l.length), j < k → s ≠ l[j])
      (R0 := fun M1 => M1 = M ∧ has l s = false) (R1 := fun t M1 => M1 = M ∧ leF (Int.ofNat 0) t = has l s)
      (step := by
        rintro n t M1 ⟨rfl, k, rfl, hk, hn, hall⟩
        refine cnd_of (fun h3 => ?_) (fun h3 => ?_)
        · have h3 : k < l.length := by
            have : leF (Int.ofNat l.length) (Int.ofNat k) = false := by simpa using h3
            exact Int.ofNat_lt.1 (leF_f.1 this)
          obtain ⟨x, o, h4, h5⟩ := strs_at h h3 (c := c) rfl
          refine ⟨x, o, h4, _, h5, cnd_of (fun h6 => ?_) (fun h6 => ?_)⟩
          · rw [eqS_t] at h6
            refine ⟨rfl, ?_⟩
            rw [has_mem.2 (h6 ▸ List.getElem_mem h3)]
            exact leF_t.2 (Int.natCast_nonneg k)
          · rw [eqS_f] at h6
            refine ⟨l.length - (k + 1), by omega, rfl, k + 1, add64 (by omega), h3, rfl, fun j hj hjk => ?_⟩
            rcases Nat.lt_or_ge j k with h' | h'
            · exact hall j hj h'
            · have : j = k := by omega
              subst this; exact h6
        · have h3 : ¬ k < l.length := by
            intro hlt
            have : leF (Int.ofNat l.length) (Int.ofNat k) = true := by simpa using h3
            have := Int.ofNat_le.1 (leF_t.1 this)
            omega
          refine ⟨rfl, ?_⟩
          rw [← Bool.not_eq_true, has_mem]
          intro hm
          obtain ⟨j, hj, e⟩ := List.getElem_of_mem hm
          exact hall j hj (by omega) e.symm)
      (n := l.length) (t8 := Int.ofNat 0) (M := M)
      ⟨rfl, 0, rfl, Nat.zero_le _, rfl, fun j _ hj => by omega⟩ hT with ⟨M', hL, hM, hR⟩ | ⟨i, M', hL, hM, hR⟩
    · exact .inl ⟨M', hL, fun _ => ⟨hM, _, rfl, by rw [hR]; rfl⟩⟩
    · exact .inr ⟨i, M', hL, fun _ => ⟨hM, _, rfl, hR⟩⟩))
  obtain ⟨v, M', h1, rfl, i, rfl, h2⟩ := key
  exact ⟨i, h1, h2⟩
theorem contains_ret {a : Option Addr} {l : List ByteArray} {c : Nat} {s : ByteArray} {M : Mem} (h : Row M a (strs l)) (hl : l.length < 4611686018427387904) : Ret Try.prog 38 [.slice a l.length c, .string s] M (.bool (has l s)) M := by
  obtain ⟨i, h1, h2⟩ := index_ret (c := c) (s := s) h hl
  exact Ret.wpToH hP (w38 ⟨_, _, h1, by rw [h2], rfl⟩)
theorem among_ret {a : Option Addr} {l : List ByteArray} {c : Nat} {s : ByteArray} {M : Mem} (h : Row M a (strs l)) (hl : l.length < 4611686018427387904) : Ret Try.prog 41 [.string s, .slice a l.length c] M (.bool (has l s)) M := by
  refine Ret.wpToH hP (w41 fun t0 hT => ?_)
  rcases loop41_0 (ut0 := s) (ut1 := a) (ut1n := l.length) (ut1c := c) (d := []) (rc := false)
      (Inv := fun n t M1 => M1 = M ∧ ∃ k : Nat, t = Int.ofNat k ∧ k ≤ l.length ∧ n = l.length - k ∧ ∀ j (h : j < l.length), j < k → s ≠ l[j])
      (R0 := fun M1 => M1 = M ∧ has l s = false) (R1 := fun t M1 => M1 = M ∧ t = has l s)
      (step := by
        rintro n t M1 ⟨rfl, k, rfl, hk, hn, hall⟩
        refine cnd_of (fun h3 => ?_) (fun h3 => ?_)
        · have h3 : k < l.length := by
            have : leF (Int.ofNat l.length) (Int.ofNat k) = false := by simpa using h3
            exact Int.ofNat_lt.1 (leF_f.1 this)
          obtain ⟨x, o, h4, h5⟩ := strs_at h h3 (c := c) rfl
          refine ⟨x, o, h4, _, h5, cnd_of (fun h6 => ?_) (fun h6 => ?_)⟩
          · rw [eqS_t] at h6
            exact ⟨rfl, (has_mem.2 (h6 ▸ List.getElem_mem h3)).symm⟩
          · rw [eqS_f] at h6
            refine ⟨l.length - (k + 1), by omega, rfl, k + 1, add64 (by omega), h3, rfl, fun j hj hjk => ?_⟩
            rcases Nat.lt_or_ge j k with h' | h'
            · exact hall j hj h'
            · have : j = k := by omega
              subst this; exact fun e => h6 e.symm
        · have h3 : ¬ k < l.length := by
            intro hlt
            have : leF (Int.ofNat l.length) (Int.ofNat k) = true := by simpa using h3
            have := Int.ofNat_le.1 (leF_t.1 this)
            omega
          refine ⟨rfl, ?_⟩
          rw [← Bool.not_eq_true, has_mem]
          intro hm
          obtain ⟨j, hj, e⟩ := List.getElem_of_mem hm
          exact hall j hj (by omega) e.symm)
      (n := l.length) (t5 := Int.ofNat 0) (M := M)
      ⟨rfl, 0, rfl, Nat.zero_le _, rfl, fun j _ hj => by omega⟩ hT with ⟨M', hL, hM, hR⟩ | ⟨i, M', hL, hM, hR⟩
  · exact .inl ⟨M', hL, fun _ => ⟨by rw [hR], hM⟩⟩
  · exact .inr ⟨i, M', hL, fun _ => ⟨by rw [hR], hM⟩⟩

/-! ### Names that may be bound -/
def reservedL : List ByteArray := [⟨#[100, 101, 102]⟩, ⟨#[102, 110]⟩, ⟨#[108, 101, 116]⟩, ⟨#[105, 102]⟩, ⟨#[97, 115, 115, 101, 114, 116]⟩, ⟨#[100, 105, 99, 116]⟩, ⟨#[99, 97, 108, 108]⟩, ⟨#[110, 111, 116]⟩, ⟨#[104, 97, 115]⟩, ⟨#[103, 101, 116]⟩, ⟨#[115, 101, 116]⟩, ⟨#[97, 110, 100]⟩, ⟨#[111, 114]⟩, ⟨#[105, 115]⟩, ⟨#[119, 104, 101, 114, 101]⟩, ⟨#[116, 114, 117, 101]⟩, ⟨#[102, 97, 108, 115, 101]⟩, ⟨#[110, 117, 108, 108]⟩]
def bindable (s : ByteArray) : Bool := isName s && (B s).getLast? != some 63 && !has reservedL s

theorem isName_pos {s : ByteArray} (h : isName s = true) : 0 < s.size := by
  rcases Nat.eq_zero_or_pos s.size with h0 | h0
  · have : B s = [] := List.eq_nil_of_length_eq_zero (by rw [B_len]; exact h0)
    simp [isName, this] at h
  · exact h0
theorem last_idx {s : ByteArray} (hs : Short s) (h : 0 < s.size) : ∃ b, (B s).getLast? = some b ∧ indexA Try.prog 9 (.string s) (.int .i64 (wrapF .i64 (Int.sub (Int.ofNat s.size) (Int.ofNat 1)))) = some (.int .u8 (b.toNat : Nat)) := by
  have hlt : s.size - 1 < s.size := by omega
  refine ⟨(B s)[s.size - 1]'(by rw [B_len]; exact hlt), ?_, ?_⟩
  · have e : (B s).length - 1 = s.size - 1 := by rw [B_len]
    rw [List.getLast?_eq_getElem?, e]
    exact List.getElem?_eq_getElem (by rw [B_len]; exact hlt)
  · rw [sub64 (by omega) hs]
    exact index9 rfl hlt
theorem q_iff (b : UInt8) : eqF (b.toNat : Int) (Int.ofNat 63) = (some b == some 63) := by
  rw [Bool.eq_iff_iff, eqF_t, beq_iff_eq, Option.some.injEq]
  exact ⟨fun e => UInt8.toNat_inj.1 (Int.ofNat.inj e), fun e => by rw [e]; rfl⟩

theorem nodeName_ret {s : ByteArray} (hs : Short s) (M : Mem) : Ret Try.prog 16 [.string s] M (.bool (bindable s)) M := by
  suffices h : ∃ v M', Ret Try.prog 16 [.string s] [] v M' ∧ v = .bool (bindable s) by
    obtain ⟨v, M', h, rfl⟩ := h
    exact h.plain rfl rfl M
  refine Ret.wpH hP (w16 ⟨_, _, lexName_ret hs _, cnd_of (fun h => ?_) (fun h => ?_)⟩)
  · obtain ⟨b, h1, h2⟩ := last_idx hs (isName_pos h)
    refine ⟨_, h2, ?_⟩
    rw [q_iff]
    refine cnd_of (fun h3 => ?_) (fun h3 => ?_)
    · refine ⟨_, _, _, _, Ret.wpToH hP (w39 ⟨rfl, rfl⟩), _, _, contains_ret (l := reservedL) (Row.new [] (strs reservedL) []) (by decide), ?_⟩
      rw [bindable, h, h1]
      simp only [Bool.true_and, bne, h3]
    · rw [bindable, h, h1]
      simp only [Bool.true_and, bne, h3, Bool.false_and]
  · rw [bindable, h]; rfl
theorem refBind_ret {s : ByteArray} (hs : Short s) (M : Mem) : Ret Try.prog 17 [.string s] M (.bool (bindable s)) M := by
  suffices h : ∃ v M', Ret Try.prog 17 [.string s] [] v M' ∧ v = .bool (bindable s) by
    obtain ⟨v, M', h, rfl⟩ := h
    exact h.plain rfl rfl M
  refine Ret.wpH hP (w17 ⟨_, _, refName_ret hs _, cnd_of (fun h => ?_) (fun h => ?_)⟩)
  · obtain ⟨b, h1, h2⟩ := last_idx hs (isName_pos h)
    refine ⟨_, h2, ?_⟩
    rw [q_iff]
    refine cnd_of (fun h3 => ?_) (fun h3 => ?_)
    · refine ⟨_, _, among_ret (l := reservedL) (Row.new [] (strs reservedL) []) (by decide), ?_⟩
      rw [bindable, h, h1]
      simp only [Bool.true_and, bne, h3]
    · rw [bindable, h, h1]
      simp only [Bool.true_and, bne, h3, Bool.false_and]
  · rw [bindable, h]; rfl

end Go.Proofs.YtabkcbaknjenmaaAM

/-
  THE NODE LAWS: what small functions answer: slices.Repeat of one number.
-/
set_option linter.unusedVariables false
set_option linter.unusedSimpArgs false
namespace Go.Proofs.YtabkcbaknjenmaaAM
open Go Go.Proofs
set_option maxRecDepth 100000

/-! ### bits.Mul of 1 -/
theorem w107a {k : Nat} {M : Mem} {K : Value → Mem → Prop} (h : ∃ (i0 : Int),
 binA Try.prog BinOp.and 110 (Operand.tmp 14) (Operand.const (.int .u64 (Int.ofNat 4294967295))) (.int .u64 (Int.ofNat 1))
 (.int .u64 (Int.ofNat 4294967295)) =
 some (Value.int .u64 i0) ∧
 ∃ (i1 : Int),
 binA Try.prog BinOp.shr 110 (Operand.tmp 16) (Operand.const (.int .u64 (Int.ofNat 32))) (.int .u64 (Int.ofNat 1)) (.int .u64 (Int.ofNat 32)) =
 some (Value.int .u64 i1) ∧
 ∃ (i2 : Int),
 binA Try.prog BinOp.and 110 (Operand.tmp 18) (Operand.const (.int .u64 (Int.ofNat 4294967295))) (.int .u64 (Int.ofNat k))
 (.int .u64 (Int.ofNat 4294967295)) =
 some (Value.int .u64 i2) ∧
 ∃ (i3 : Int),
 binA Try.prog BinOp.shr 110 (Operand.tmp 20) (Operand.const (.int .u64 (Int.ofNat 32))) (.int .u64 (Int.ofNat k))
 (.int .u64 (Int.ofNat 32)) =
 some (Value.int .u64 i3) ∧
 ∃ (i4 : Int),
 binA Try.prog BinOp.shr 110 (Operand.tmp 28) (Operand.const (.int .u64 (Int.ofNat 32))) (.int .u64 (wrapF .u64 (Int.mul i0 i2)))
 (.int .u64 (Int.ofNat 32)) =
 some (Value.int .u64 i4) ∧
 ∃ (i5 : Int),
 binA Try.prog BinOp.and 110 (Operand.tmp 31) (Operand.const (.int .u64 (Int.ofNat 4294967295)))
 (.int .u64 (wrapF .u64 (Int.add (wrapF .u64 (Int.mul i1 i2)) i4))) (.int .u64 (Int.ofNat 4294967295)) =
 some (Value.int .u64 i5) ∧
 ∃ (i6 : Int),
 binA Try.prog BinOp.shr 110 (Operand.tmp 33) (Operand.const (.int .u64 (Int.ofNat 32)))
 (.int .u64 (wrapF .u64 (Int.add (wrapF .u64 (Int.mul i1 i2)) i4))) (.int .u64 (Int.ofNat 32)) =
 some (Value.int .u64 i6) ∧
 ∃ (i7 : Int),
 binA Try.prog BinOp.shr 110 (Operand.tmp 45) (Operand.const (.int .u64 (Int.ofNat 32)))
 (.int .u64 (wrapF .u64 (Int.add i5 (wrapF .u64 (Int.mul i0 i3))))) (.int .u64 (Int.ofNat 32)) =
 some (Value.int .u64 i7) ∧
 K
 (.tuple
 (Array.mk
 [.int .u64 (wrapF .u64 (Int.add (wrapF .u64 (Int.add (wrapF .u64 (Int.mul i1 i3)) i6)) i7)),
 .int .u64 (wrapF .u64 (Int.ofNat (1 * k)))]))
 M) : Held (wpRet Try.prog 107 true [] [.int .u64 (Int.ofNat 1), .int .u64 (Int.ofNat k)] M K) := held_of (by kernel_rfl) h
theorem wrapU {n : Nat} (h : n < 18446744073709551616) : wrapF .u64 (Int.ofNat n) = Int.ofNat n := by
  rw [wrapF_eq]
  exact wrap_id .u64 (by show -(0 : Int) ≤ (n : Int); omega) (by show (n : Int) < 18446744073709551616; omega)
theorem wrapU' {n : Nat} (h : n < 18446744073709551616) : IntKind.wrap .u64 (Int.ofNat n) = Int.ofNat n := by rw [← wrapF_eq]; exact wrapU h
theorem and64 {a b : Nat} (ha : a < 18446744073709551616) (hb : b < 18446744073709551616) (ty : TypeId) (x y : Operand) : binA Try.prog .and ty x y (.int .u64 (Int.ofNat a)) (.int .u64 (Int.ofNat b)) = some (.int .u64 (Int.ofNat (a &&& b))) := by
  have h : binA Try.prog .and ty x y (.int .u64 (Int.ofNat a)) (.int .u64 (Int.ofNat b)) = some (.int .u64 (IntKind.wrap .u64 ((BitVec.ofInt 64 (Int.ofNat a) &&& BitVec.ofInt 64 (Int.ofNat b)).toNat : Nat))) := by kernel_rfl
  rw [h]
  have e : (BitVec.ofInt 64 (Int.ofNat a) &&& BitVec.ofInt 64 (Int.ofNat b)).toNat = a &&& b := by
    rw [BitVec.toNat_and]
    show (BitVec.ofInt 64 (a : Int)).toNat &&& (BitVec.ofInt 64 (b : Int)).toNat = _
    rw [BitVec.ofInt_natCast, BitVec.ofInt_natCast, BitVec.toNat_ofNat, BitVec.toNat_ofNat, Nat.mod_eq_of_lt ha, Nat.mod_eq_of_lt hb]
  rw [e]
  have : a &&& b ≤ a := Nat.and_le_left
  exact congrArg (fun z => some (Value.int .u64 z)) (wrapU' (by omega))
theorem shr64 {a : Nat} (ty : TypeId) (x y : Operand) : binA Try.prog .shr ty x y (.int .u64 (Int.ofNat a)) (.int .u64 (Int.ofNat 32)) = some (.int .u64 (Int.ofNat (a / 4294967296))) := by
  have h : binA Try.prog .shr ty x y (.int .u64 (Int.ofNat a)) (.int .u64 (Int.ofNat 32)) = some (.int .u64 (Int.fdiv (Int.ofNat a) (Int.ofNat 4294967296))) := by kernel_rfl
  rw [h, Int.fdiv_eq_ediv_of_nonneg _ (show (0 : Int) ≤ Int.ofNat 4294967296 by decide)]
  rfl
theorem mul1_ret {k : Nat} (hk : k < 4294967296) (M : Mem) : Ret Try.prog 101 [.int .u64 (Int.ofNat 1), .int .u64 (Int.ofNat k)] M (.tuple ⟨[.int .u64 (Int.ofNat 0), .int .u64 (Int.ofNat k)]⟩) M := by
  have hm : k &&& 4294967295 = k := by
    have := Nat.and_two_pow_sub_one_eq_mod k 32
    have e : (2 : Nat) ^ 32 = 4294967296 := by decide
    rw [e] at this
    simpa [Nat.mod_eq_of_lt hk] using this
  have hd : k / 4294967296 = 0 := Nat.div_eq_of_lt hk
  have h107 : Ret Try.prog 107 [.int .u64 (Int.ofNat 1), .int .u64 (Int.ofNat k)] M (.tuple ⟨[.int .u64 (Int.ofNat 0), .int .u64 (Int.ofNat k)]⟩) M := by
    refine Ret.wpToH hP (w107a ⟨_, and64 (by omega) (by omega) _ _ _, _, shr64 _ _ _, _, and64 (by omega) (by omega) _ _ _, _, shr64 _ _ _, ?_⟩)
    rw [hm, hd]
    have e1 : (1 &&& 4294967295 : Nat) = 1 := by decide
    have e2 : (1 / 4294967296 : Nat) = 0 := by decide
    rw [e1, e2]
    have m1 : Int.mul (Int.ofNat 1) (Int.ofNat k) = Int.ofNat k := by show (1 : Int) * (k : Int) = _; rw [Int.one_mul]; rfl
    have m0 : Int.mul (Int.ofNat 0) (Int.ofNat k) = Int.ofNat 0 := by show (0 : Int) * (k : Int) = _; rw [Int.zero_mul]; rfl
    have m00 : Int.mul (Int.ofNat 0) (Int.ofNat 0) = Int.ofNat 0 := by decide
    have m10 : Int.mul (Int.ofNat 1) (Int.ofNat 0) = Int.ofNat 0 := by decide
    have a0 : Int.add (Int.ofNat 0) (Int.ofNat 0) = Int.ofNat 0 := by decide
    have w0 : wrapF .u64 (Int.ofNat 0) = Int.ofNat 0 := wrapU (by decide)
    rw [m1, wrapU (show k < _ by omega), m0, m00, m10, w0]
    refine ⟨_, shr64 _ _ _, ?_⟩
    rw [hd, a0, w0]
    refine ⟨_, and64 (by omega) (by omega) _ _ _, _, shr64 _ _ _, ?_⟩
    have e3 : (0 &&& 4294967295 : Nat) = 0 := by decide
    have e4 : (0 / 4294967296 : Nat) = 0 := by decide
    rw [e3, e4, a0, w0]
    refine ⟨_, shr64 _ _ _, ?_⟩
    rw [e4, a0, w0, Nat.one_mul, wrapU (show k < _ by omega)]
    exact ⟨rfl, rfl⟩
  exact Ret.wpToH hP (w101 ⟨_, _, _, h107, rfl, rfl⟩)

/-! ### Rows of numbers -/
theorem el22 : elemT Try.prog 22 = some 3 := by kernel_rfl
theorem sz3 : sizeT Try.prog 3 = some 1 := by kernel_rfl
theorem by3 : bytesT Try.prog 3 = some 8 := by kernel_rfl
theorem ze3 : zeroVT Try.prog 3 = some (.int .i64 0) := by kernel_rfl
theorem made1 (v : Value) (n : Nat) : (madeCells #[v] n).toList = List.replicate n v := by
  have e : (#[v] : Array Value)[0]! = v := by simp
  apply List.ext_getElem
  · simp [madeCells]
  · intro i h1 h2
    simp [madeCells, Nat.mod_one, e]
theorem make22 {k : Nat} (hk : k ≤ 1000000) (M : Mem) : makeA Try.prog M 22 (.int .i64 (Int.ofNat k)) (.int .i64 (Int.ofNat k)) = some (.slice (some ⟨M.length, 0, none⟩) k k, M ++ [.cells (List.replicate k (.int .i64 0)) 1 .live]) := by
  have hc : (0 : Int) ≤ Int.ofNat k ∧ Int.ofNat k ≤ Int.ofNat k ∧ ((8 : Nat) : Int) * Int.ofNat k ≤ 281474976710656 ∧ Int.ofNat k ≤ 4611686018427387904 ∧ (Value.int .i64 0).cells.size = 1 := by
    refine ⟨Int.natCast_nonneg k, Int.le_refl _, ?_, ?_, rfl⟩
    · show (8 : Int) * (k : Int) ≤ _; omega
    · show (k : Int) ≤ _; omega
  simp only [makeA, el22, sz3, by3, ze3, Option.bind_some]
  rw [if_pos hc]
  show some (Value.slice _ k k, M ++ [AObj.cells (madeCells #[.int .i64 0] (k * 1)).toList 1 .live]) = _
  rw [Nat.mul_one, made1]

theorem rdCells_at {M : Mem} {x o n : Nat} {vs : List Value} {u : Nat} {m : Mode} (h : M[x]? = some (.cells vs u m)) (hm : m ≠ .dead) (hn : o + n ≤ vs.length) : rdCells M x o n = some ((vs.drop o).take n) := by
  unfold rdCells
  rw [h]
  dsimp only
  rw [if_neg (by rw [not_or]; exact ⟨hm, by omega⟩)]
theorem wrCells_at {M : Mem} {x o : Nat} {vs new : List Value} {u : Nat} (h : M[x]? = some (.cells vs u .live)) (hn : o + new.length ≤ vs.length) (h1 : new.all Value.oneCell' = true) : wrCells M x o new = some (M.set x (.cells (splice vs o new) u .live)) := by
  unfold wrCells
  rw [h]
  dsimp only
  rw [if_pos ⟨hn, h1⟩]
theorem set_last (M : Mem) (a b : AObj) : (M ++ [a]).set M.length b = M ++ [b] := by
  rw [List.set_append_right _ _ (Nat.le_refl _), Nat.sub_self]; rfl
theorem get_last (M : Mem) (a : AObj) : (M ++ [a])[M.length]? = some a := by
  rw [List.getElem?_append_right (Nat.le_refl _), Nat.sub_self]; rfl

/-- One value's row, copied. -/
theorem copy22 {M : Mem} {b o n c : Nat} {s : Value} {k m : Nat} {new vs : List Value} {z : Nat} (hs : srcA Try.prog M 1 s = some (m, new)) (hM : M[b]? = some (.cells vs 1 .live)) (hmn : 0 < min m n) (hlen : new.length = m) (hfit : o + min m n ≤ vs.length) (h1 : new.all Value.oneCell' = true) :
    copyA Try.prog M 22 (.slice (some ⟨b, o, none⟩) n c) s = some (.int .i64 (Int.ofNat (min m n)), M.set b (.cells (splice vs o (new.take (min m n))) 1 .live)) := by
  simp only [copyA, el22, sz3, Option.bind_some]
  rw [if_neg (by decide), hs]
  simp only [Option.bind_some]
  rw [if_neg (by omega), Nat.mul_one, wrCells_at hM (by rw [List.length_take]; omega) (List.all_eq_true.2 fun x hx => List.all_eq_true.1 h1 x (List.mem_of_mem_take hx))]
  rfl
theorem splice_rep (v z : Value) (n k j : Nat) (h : n + j ≤ k) : splice (List.replicate n v ++ List.replicate (k - n) z) n (List.replicate j v) = List.replicate (n + j) v ++ List.replicate (k - (n + j)) z := by
  unfold splice
  rw [List.take_left' (by simp), List.drop_append, List.drop_eq_nil_of_le (by simp), List.nil_append]
  simp only [List.length_replicate, List.drop_replicate]
  rw [List.replicate_append_replicate]
  have e : k - n - (n + j - n) = k - (n + j) := by omega
  rw [e]

theorem slice_cap {ty e : TypeId} {size : Nat} (he : elemT Try.prog ty = some e) (hs : sizeT Try.prog e = some size) {M : Mem} {b o n c l h : Nat} {lo hi : Option Value} (hl : bnd lo 0 = some l) (hh : bnd hi n = some h) (h1 : l ≤ h) (h2 : h ≤ c) (hc : c < capU) :
    sliceA Try.prog M ty (.slice (some ⟨b, o, none⟩) n c) lo hi none = some (.slice (some ⟨b, (if c = l then o else o + l * size), none⟩) (h - l) (c - l)) := by
  have hm : bnd none c = some c := rfl
  simp only [sliceA, he, hs, Option.bind_some, hl, hh, hm]
  rw [if_neg (by omega), if_pos ⟨h1, h2, Nat.le_refl _, by omega⟩]
theorem repeat_ret {x o c k : Nat} {i : Int} {M : Mem} (hx : cellAt M x o = some (.int .i64 i)) (hk : k ≤ 1000000) :
    Ret Try.prog 85 [.slice (some ⟨x, o, none⟩) 1 c, .int .i64 (Int.ofNat k)] M (.slice (some ⟨M.length, 0, none⟩) k k) (M ++ [.cells (List.replicate k (.int .i64 i)) 1 .live]) := by
  have hxM : x < M.length := by
    unfold cellAt at hx
    split at hx
    · rename_i h; exact (List.getElem?_eq_some_iff.1 h).1
    · simp at hx
  have h0 : (!leF (Int.ofNat 0) (Int.ofNat k)) = false := by rw [leF_t.2 (show Int.ofNat 0 ≤ Int.ofNat k from Int.natCast_nonneg k)]; rfl
  have hmul : Ret Try.prog 101 [.int .u64 (Int.ofNat (1 % 18446744073709551616)), .int .u64 (IntKind.wrap .u64 (Int.ofNat k))] M (.tuple ⟨[.int .u64 (Int.ofNat 0), .int .u64 (Int.ofNat k)]⟩) M := by
    rw [wrapU' (show k < _ by omega)]
    exact mul1_ret (k := k) (by omega) M
  have hle : (!leF (Int.ofNat k) (Int.ofNat 9223372036854775807)) = false := by rw [leF_t.2 (show Int.ofNat k ≤ Int.ofNat 9223372036854775807 from Int.ofNat_le.2 (by omega))]; rfl
  have hmake : makeA Try.prog M 22 (.int .i64 (IntKind.wrap .i64 (Int.ofNat k))) (.int .i64 (IntKind.wrap .i64 (Int.ofNat k))) = some (.slice (some ⟨M.length, 0, none⟩) k k, M ++ [.cells (List.replicate k (.int .i64 0)) 1 .live]) := by
    have e : IntKind.wrap .i64 (Int.ofNat k) = Int.ofNat k := by rw [← wrapF_eq]; exact wrap64 (by show _ ≤ (k : Int); omega) (by show (k : Int) < _; omega)
    rw [e]
    exact make22 hk M
  refine Ret.wpToH hP (w85 (cnd_f' h0 ⟨_, _, _, hmul, cnd_f' (by decide) (cnd_f' hle ⟨_, _, _, _, hmake, ?_⟩)⟩))
  -- copy of the one
  have hsrc : srcA Try.prog (M ++ [.cells (List.replicate k (.int .i64 0)) 1 .live]) 1 (.slice (some ⟨x, o, none⟩) 1 c) = some (1, [.int .i64 i]) := by
    have hx' := cell_app (G := [.cells (List.replicate k (.int .i64 0)) 1 .live]) hx
    unfold cellAt at hx'
    split at hx'
    · rename_i vs u m hM
      split at hx'
      · simp at hx'
      · rename_i hm
        obtain ⟨hlt, hv⟩ := List.getElem?_eq_some_iff.1 hx'
        simp only [srcA]
        rw [rdCells_at hM hm (by omega)]
        simp only [Option.map_some]
        congr 2
        rw [Nat.mul_one, List.drop_eq_getElem_cons hlt, hv]; rfl
    · simp at hx'
  have hinit : ∃ j, j = min 1 k ∧ copyA Try.prog (M ++ [.cells (List.replicate k (.int .i64 0)) 1 .live]) 22 (.slice (some ⟨M.length, 0, none⟩) k k) (.slice (some ⟨x, o, none⟩) 1 c) = some (.int .i64 (Int.ofNat j), M ++ [.cells (List.replicate j (.int .i64 i) ++ List.replicate (k - j) (.int .i64 0)) 1 .live]) := by
    refine ⟨min 1 k, rfl, ?_⟩
    rcases Nat.eq_zero_or_pos k with h0 | h0
    · subst h0
      simp only [copyA, el22, sz3, Option.bind_some, hsrc]
      rw [if_neg (by decide), if_pos (by decide)]
      rfl
    · rw [copy22 (k := k) (z := 0) hsrc (get_last _ _) (by omega) rfl (by simp; omega) rfl, set_last]
      have hm : min 1 k = 1 := by omega
      rw [hm]
      have := splice_rep (.int .i64 i) (.int .i64 0) 0 k 1 (by omega)
      simp only [List.replicate_zero, List.nil_append, Nat.sub_zero, Nat.zero_add] at this
      have e : List.take 1 [Value.int .i64 i] = List.replicate 1 (.int .i64 i) := rfl
      rw [e, this]
  obtain ⟨j, hj, hcopy⟩ := hinit
  refine ⟨_, _, hcopy, fun t0 hT => ?_⟩
  obtain ⟨M', hL, hM'⟩ := loop85_0 (ut7 := some ⟨M.length, 0, none⟩) (ut7n := k) (ut7c := k) (d := []) (rc := false)
    (Inv := fun n t M1 => ∃ a, t = Int.ofNat a ∧ a ≤ k ∧ n = k - a ∧ (0 < a ∨ k = 0) ∧ M1 = M ++ [.cells (List.replicate a (.int .i64 i) ++ List.replicate (k - a) (.int .i64 0)) 1 .live])
    (R0 := fun M1 => M1 = M ++ [.cells (List.replicate k (.int .i64 i)) 1 .live])
    (step := by
      rintro n t M1 ⟨a, rfl, ha, hn, hpos, rfl⟩
      refine cnd_of (fun h3 => ?_) (fun h3 => ?_)
      · have h3 : a < k := by
          have : leF (Int.ofNat k) (Int.ofNat a) = false := by simpa using h3
          exact Int.ofNat_lt.1 (leF_f.1 this)
        have hcap : k ≠ capU := by unfold capU; omega
        have hcap2 : k - a ≠ capU := by unfold capU; omega
        have hs1 : sliceA Try.prog (M ++ [.cells (List.replicate a (.int .i64 i) ++ List.replicate (k - a) (.int .i64 0)) 1 .live]) 22 (.slice (some ⟨M.length, 0, none⟩) k k) (some (.int .i64 (Int.ofNat a))) none none = some (.slice (some ⟨M.length, a, none⟩) (k - a) (k - a)) := by
          rw [slice_cap el22 sz3 (bnd_nat _ _) rfl (Nat.le_of_lt h3) (Nat.le_refl _) (by unfold capU; omega), if_neg (by omega), Nat.zero_add, Nat.mul_one]
        have hs2 : sliceA Try.prog (M ++ [.cells (List.replicate a (.int .i64 i) ++ List.replicate (k - a) (.int .i64 0)) 1 .live]) 22 (.slice (some ⟨M.length, 0, none⟩) k k) none (some (.int .i64 (Int.ofNat a))) none = some (.slice (some ⟨M.length, 0, none⟩) a k) := by
          rw [slice_cap el22 sz3 rfl (bnd_nat _ _) (Nat.zero_le _) (Nat.le_of_lt h3) (by unfold capU; omega), if_neg (by omega)]
          rfl
        refine ⟨_, _, _, hs1, _, _, _, hs2, ?_⟩
        have hsr : srcA Try.prog (M ++ [.cells (List.replicate a (.int .i64 i) ++ List.replicate (k - a) (.int .i64 0)) 1 .live]) 1 (.slice (some ⟨M.length, 0, none⟩) a k) = some (a, List.replicate a (.int .i64 i)) := by
          simp only [srcA]
          rw [rdCells_at (get_last _ _) (by decide) (by simp)]
          simp
        refine ⟨_, _, copy22 (k := k) (z := 0) hsr (get_last _ _) (by omega) (by simp) (by simp; omega) (List.all_eq_true.2 fun x hx => by rw [List.eq_of_mem_replicate hx]; rfl), trivial, ?_⟩
        rw [set_last, List.take_replicate, Nat.min_eq_left (Nat.min_le_left a (k - a)), splice_rep _ _ _ _ _ (by omega)]
        refine ⟨k - (a + min a (k - a)), by omega, a + min a (k - a), add64 (by omega), by omega, rfl, by omega, rfl⟩
      · have h3 : ¬ a < k := by
          intro hlt
          have : leF (Int.ofNat k) (Int.ofNat a) = true := by simpa using h3
          have := Int.ofNat_le.1 (leF_t.1 this)
          omega
        have : a = k := by omega
        subst this
        simp)
    (n := k - j) (t8 := Int.ofNat j) ⟨j, rfl, by omega, rfl, by omega, rfl⟩ hT
  exact ⟨M', hL, fun _ => ⟨rfl, hM'⟩⟩

end Go.Proofs.YtabkcbaknjenmaaAM

/-
  THE NODE LAWS: memory that grows, rows that are appended to.
-/
set_option linter.unusedVariables false
set_option linter.unusedSimpArgs false
namespace Go.Proofs.YtabkcbaknjenmaaAM
open Go Go.Proofs
set_option maxRecDepth 100000

/-- What was there is as it was. -/
def Keep (M M' : Mem) : Prop := ∃ G, M' = M ++ G
theorem Keep.refl (M : Mem) : Keep M M := ⟨[], (List.append_nil M).symm⟩
theorem Keep.app (M G : Mem) : Keep M (M ++ G) := ⟨G, rfl⟩
theorem Keep.trans {a b c : Mem} (h : Keep a b) (k : Keep b c) : Keep a c := by
  obtain ⟨g, rfl⟩ := h; obtain ⟨g', rfl⟩ := k; exact ⟨g ++ g', List.append_assoc _ _ _⟩
theorem Keep.one {a b : Mem} (h : Keep a b) (o : AObj) : Keep a (b ++ [o]) := h.trans (.app _ _)
theorem Keep.len {a b : Mem} (h : Keep a b) : a.length ≤ b.length := by obtain ⟨g, rfl⟩ := h; simp
theorem Keep.get {a b : Mem} (h : Keep a b) {x : Nat} {o : AObj} (e : a[x]? = some o) : b[x]? = some o := by
  obtain ⟨g, rfl⟩ := h
  rw [List.getElem?_append_left (List.getElem?_eq_some_iff.1 e).1]; exact e
theorem Keep.same {a b : Mem} (h : Keep a b) {x : Nat} (hx : x < a.length) : b[x]? = a[x]? := by
  obtain ⟨g, rfl⟩ := h
  rw [List.getElem?_append_left hx]
theorem Keep.cell {a b : Mem} (h : Keep a b) {x o : Nat} {v : Value} (e : cellAt a x o = some v) : cellAt b x o = some v := by
  obtain ⟨g, rfl⟩ := h; exact cell_app e
theorem Keep.row {a b : Mem} (h : Keep a b) {p : Option Addr} {l : List Value} (e : Row a p l) : Row b p l := by
  obtain ⟨g, rfl⟩ := h; exact e.app
theorem Keep.set {a b : Mem} (h : Keep a b) {x : Nat} (hx : a.length ≤ x) (o : AObj) : Keep a (b.set x o) := by
  obtain ⟨g, rfl⟩ := h
  rw [List.set_append_right _ _ hx]; exact .app _ _

/-- An object of cells, alive. -/
def At (M : Mem) (x : Nat) (vs : List Value) : Prop := ∃ u m, m ≠ Mode.dead ∧ M[x]? = some (.cells vs u m)
theorem At.keep {a b : Mem} (h : Keep a b) {x : Nat} {vs : List Value} (e : At a x vs) : At b x vs := by
  obtain ⟨u, m, hm, e⟩ := e; exact ⟨u, m, hm, h.get e⟩
theorem At.last (M : Mem) (vs : List Value) (u : Nat) : At (M ++ [.cells vs u .live]) M.length vs := ⟨u, .live, by decide, get_last _ _⟩
theorem At.lt {M : Mem} {x : Nat} {vs : List Value} (h : At M x vs) : x < M.length := by
  obtain ⟨u, m, hm, e⟩ := h; exact (List.getElem?_eq_some_iff.1 e).1
theorem At.cell {M : Mem} {x o : Nat} {vs : List Value} {v : Value} (h : At M x vs) (e : vs[o]? = some v) : cellAt M x o = some v := by
  obtain ⟨u, m, hm, h⟩ := h
  unfold cellAt
  rw [h]; dsimp only
  rw [if_neg hm]; exact e
theorem At.rd {M : Mem} {x o : Nat} {vs : List Value} {v : Value} (h : At M x vs) {ty : TypeId} (hk : (kindT Try.prog ty).map aggK = some false) (e : vs[o]? = some v) : rdVar Try.prog M ty x o = some v := rd_of_cell hk (h.cell e)
theorem At.rdA {M : Mem} {x : Nat} {vs : List Value} (h : At M x vs) {ty : TypeId} (hk : (kindT Try.prog ty).map aggK = some true) (hs : sizeT Try.prog ty = some vs.length) : rdVar Try.prog M ty x 0 = some (.agg ⟨vs⟩) := by
  obtain ⟨u, m, hm, h⟩ := h
  unfold rdVar
  cases hk' : kindT Try.prog ty with
  | none => rw [hk'] at hk; simp at hk
  | some k =>
    rw [hk'] at hk
    simp only [Option.map_some, Option.some.injEq] at hk
    simp only [Option.bind_some, hk, if_true, hs]
    rw [rdCells_at h hm (by omega)]
    simp
theorem At.row {M : Mem} {x : Nat} {vs : List Value} (h : At M x vs) : Row M (some ⟨x, 0, none⟩) vs :=
  .inr ⟨x, 0, rfl, fun k hk => h.cell (by rw [Nat.zero_add]; exact List.getElem?_eq_getElem hk)⟩
theorem k3 : (kindT Try.prog 3).map aggK = some false := by kernel_rfl
theorem k4 : (kindT Try.prog 4).map aggK = some false := by kernel_rfl
theorem k9 : (kindT Try.prog 9).map aggK = some false := by kernel_rfl
theorem k22 : (kindT Try.prog 22).map aggK = some false := by kernel_rfl
theorem k36 : (kindT Try.prog 36).map aggK = some false := by kernel_rfl
theorem k38 : (kindT Try.prog 38).map aggK = some false := by kernel_rfl
theorem k53 : (kindT Try.prog 53).map aggK = some false := by kernel_rfl
theorem k24 : (kindT Try.prog 24).map aggK = some true := by kernel_rfl
theorem s24 : sizeT Try.prog 24 = some 5 := by kernel_rfl

/-- A row that is one's own: what is behind M may be used up. -/
def Own (M M1 : Mem) (sz : Nat) (a : Option Addr) (n c : Nat) (l : List Value) : Prop :=
  Keep M M1 ∧ l.length = n * sz ∧ ((a = none ∧ n = 0 ∧ c = 0) ∨ ∃ b, a = some ⟨b, 0, none⟩ ∧ M.length ≤ b ∧ M1[b]? = some (.cells l sz .live) ∧ (c = capU ∨ c = n))
theorem Own.keep {M M1 M2 : Mem} {sz n c : Nat} {a : Option Addr} {l : List Value} (h : Own M M1 sz a n c l) (k : Keep M1 M2) : Own M M2 sz a n c l := by
  obtain ⟨h1, h2, h3⟩ := h
  refine ⟨h1.trans k, h2, ?_⟩
  rcases h3 with h3 | ⟨b, h3, h4, h5, h6⟩
  · exact .inl h3
  · exact .inr ⟨b, h3, h4, k.get h5, h6⟩
theorem Own.row {M M1 : Mem} {sz n c : Nat} {a : Option Addr} {l : List Value} (h : Own M M1 sz a n c l) : Row M1 a l := by
  obtain ⟨h1, h2, h3⟩ := h
  rcases h3 with ⟨_, h3, _⟩ | ⟨b, rfl, h4, h5, h6⟩
  · subst h3
    exact .inl (List.eq_nil_of_length_eq_zero (by omega))
  · exact At.row ⟨sz, .live, by decide, h5⟩
theorem Own.nil (M : Mem) (sz : Nat) : Own M M sz none 0 0 [] := ⟨.refl M, by simp, .inl ⟨rfl, rfl, rfl⟩⟩

structure Elem (ty xty e : TypeId) (size bytes : Nat) : Prop where
  el : elemT Try.prog ty = some e
  sz : sizeT Try.prog e = some size
  by_ : bytesT Try.prog e = some bytes
  ze : ∃ z, zeroVT Try.prog e = some z ∧ z.cells.size = size
  xk : kindT Try.prog xty = some .slice ∨ kindT Try.prog xty = some .str
  pos : 0 < size

theorem append_own {ty xty e : TypeId} {size bytes : Nat} (E : Elem ty xty e size bytes) {M M1 : Mem} {a : Option Addr} {n c m : Nat} {l new : List Value} {x : Value} (h : Own M M1 size a n c l) (hs : srcA Try.prog M1 size x = some (m, new)) (hn : new.length = m * size)
    (h1 : new.all Value.oneCell' = true) (hfit : (n + m) * bytes ≤ 140737488355328) (hfit2 : n + m ≤ 4611686018427387904) :
    ∃ a' c' M2, appendA Try.prog M1 ty xty (.slice a n c) x = some (.slice a' (n + m) c', M2) ∧ Own M M2 size a' (n + m) c' (l ++ new) := by
  obtain ⟨hk, hl, hcase⟩ := h
  obtain ⟨z, hz, hz2⟩ := E.ze
  obtain ⟨xk, hxk, hxk2⟩ : ∃ xk, kindT Try.prog xty = some xk ∧ (xk = .slice ∨ xk = .str) := by
    rcases E.xk with h | h
    · exact ⟨_, h, .inl rfl⟩
    · exact ⟨_, h, .inr rfl⟩
  have hcnd : ¬ ((xk ≠ .slice ∧ xk ≠ .str) ∨ size = 0 ∨ z.cells.size ≠ size) := by
    rintro (⟨h1, h2⟩ | h | h)
    · rcases hxk2 with h | h
      · exact h1 h
      · exact h2 h
    · have := E.pos; omega
    · exact h hz2
  have key : appendA Try.prog M1 ty xty (.slice a n c) x =
      (if m = 0 then (if c ≠ capU → n ≤ c then (match a with | none => some (.slice a n c, M1) | some ⟨_, _, none⟩ => some (.slice a n c, M1) | _ => none) else none)
      else if c ≠ capU ∧ n + m ≤ c then
        match a with
        | some ⟨b, o, none⟩ => (wrCells M1 b (o + n * size) new).map fun M' => (.slice a (n + m) c, M')
        | _ => none
      else if room47 (n + m) bytes = false ∨ n + m > 4611686018427387904 then none
      else if c ≠ capU then
        match a with
        | none => if n = 0 ∧ c = 0 then some (.slice (some ⟨M1.length, 0, none⟩) (n + m) capU, M1 ++ [.cells new size .live]) else none
        | some ⟨b, o, none⟩ => (rdCells M1 b o (n * size)).map fun old => (.slice (some ⟨M1.length, 0, none⟩) (n + m) capU, M1 ++ [.cells (old ++ new) size .live])
        | _ => none
      else
        match a with
        | some ⟨b, o, none⟩ =>
          match M1[b]? with
          | some (.cells vs u .live) => if u = size ∧ new.all Value.oneCell' = true then (rdCells M1 b o (n * size)).map fun old => (.slice (some ⟨M1.length, 0, none⟩) (n + m) capU, M1.set b (.cells vs u .dead) ++ [.cells (old ++ new) size .live]) else none
          | _ => none
        | _ => none) := by
    unfold appendA
    simp only [E.el, E.sz, E.by_, hz, hxk, hs, Option.bind_some]
    rw [if_neg hcnd]
    rfl
  rw [key]
  by_cases hm : m = 0
  · subst hm
    have hnew : new = [] := List.eq_nil_of_length_eq_zero (by omega)
    subst hnew
    rw [if_pos rfl]
    rcases hcase with ⟨rfl, rfl, rfl⟩ | ⟨b, rfl, hb, hM, hc⟩
    · rw [if_pos (fun _ => Nat.le_refl _)]
      exact ⟨none, 0, M1, rfl, hk, by simpa using hl, .inl ⟨rfl, rfl, rfl⟩⟩
    · have hcc : c ≠ capU → n ≤ c := fun h => by rcases hc with h' | h' <;> omega
      rw [if_pos hcc]
      exact ⟨_, c, M1, rfl, hk, by simpa using hl, .inr ⟨b, rfl, hb, by simpa using hM, hc⟩⟩
  · rw [if_neg hm]
    have hroom : ¬ (room47 (n + m) bytes = false ∨ n + m > 4611686018427387904) := by
      simp only [room47, decide_eq_false_iff_not]; omega
    rcases hcase with ⟨rfl, rfl, rfl⟩ | ⟨b, rfl, hb, hM, hc⟩
    · have hl0 : l = [] := List.eq_nil_of_length_eq_zero (by omega)
      subst hl0
      rw [if_neg (by omega), if_neg hroom, if_pos (by decide)]
      dsimp only
      rw [if_pos ⟨rfl, rfl⟩]
      refine ⟨_, _, _, rfl, hk.one _, by simpa using hn, .inr ⟨M1.length, rfl, hk.len, ?_, .inl rfl⟩⟩
      rw [get_last]; rfl
    · have hcap : capU = 9223372036854775808 := rfl
      rw [if_neg (by rcases hc with h | h <;> omega), if_neg hroom]
      rcases hc with rfl | rfl
      · rw [if_neg (by simp)]
        dsimp only
        rw [hM]
        dsimp only
        rw [if_pos ⟨rfl, h1⟩, rdCells_at hM (by decide) (by omega)]
        simp only [Option.map_some, List.drop_zero]
        rw [List.take_of_length_le (by omega)]
        refine ⟨_, _, _, rfl, (hk.set hb _).one _, by rw [List.length_append, hl, hn, Nat.add_mul], .inr ⟨M1.length, rfl, hk.len, ?_, .inl rfl⟩⟩
        have : (M1.set b (AObj.cells l size Mode.dead)).length = M1.length := List.length_set
        rw [← this, get_last]
      · rw [if_pos (by omega)]
        dsimp only
        rw [rdCells_at hM (by decide) (by omega)]
        simp only [Option.map_some, List.drop_zero]
        rw [List.take_of_length_le (by omega)]
        refine ⟨_, _, _, rfl, hk.one _, by rw [List.length_append, hl, hn, Nat.add_mul], .inr ⟨M1.length, rfl, hk.len, get_last _ _, .inl rfl⟩⟩

/-- What one's row of cells gives to append. -/
theorem src_at {M : Mem} {x n c sz : Nat} {vs : List Value} {u : Nat} (h : M[x]? = some (.cells vs u .live)) (hn : vs.length = n * sz) : srcA Try.prog M sz (.slice (some ⟨x, 0, none⟩) n c) = some (n, vs) := by
  simp only [srcA]
  rw [rdCells_at h (by decide) (by omega)]
  simp only [Option.map_some, List.drop_zero]
  rw [List.take_of_length_le (by omega)]

theorem E22 : Elem 22 22 3 1 8 := ⟨by kernel_rfl, by kernel_rfl, by kernel_rfl, ⟨_, ze3, rfl⟩, .inl (by kernel_rfl), by decide⟩
theorem E53 : Elem 53 53 9 1 16 := ⟨by kernel_rfl, by kernel_rfl, by kernel_rfl, ⟨.string ⟨#[]⟩, by kernel_rfl, rfl⟩, .inl (by kernel_rfl), by decide⟩

def ints (l : List Int) : List Value := l.map (.int .i64)

end Go.Proofs.YtabkcbaknjenmaaAM

/-
  THE NODE LAWS: what reference 6 says of a node's kids.
-/
set_option linter.unusedVariables false
set_option linter.unusedSimpArgs false
namespace Go.Proofs.YtabkcbaknjenmaaAM
open Go Go.Proofs
set_option maxRecDepth 100000
set_option maxHeartbeats 4000000

def noText : ByteArray := ⟨#[]⟩
def testsL : List ByteArray := [⟨#[105, 110, 116, 63]⟩, ⟨#[98, 111, 111, 108, 63]⟩, ⟨#[115, 116, 114, 63]⟩, ⟨#[100, 105, 99, 116, 63]⟩, ⟨#[102, 117, 110, 63]⟩, ⟨#[110, 117, 108, 108, 63]⟩]
def basicL : List ByteArray := [⟨#[43]⟩, ⟨#[45]⟩, ⟨#[42]⟩, ⟨#[60]⟩, ⟨#[60, 61]⟩, ⟨#[61]⟩, ⟨#[110, 111, 116]⟩, ⟨#[104, 97, 115]⟩, ⟨#[103, 101, 116]⟩, ⟨#[115, 101, 116]⟩]
def opsL : List ByteArray := basicL ++ testsL
def tagsL : List ByteArray := [⟨#[84, 111, 112]⟩, ⟨#[73, 110, 116]⟩, ⟨#[66, 111, 111, 108]⟩, ⟨#[83, 116, 114]⟩, ⟨#[68, 105, 99, 116]⟩, ⟨#[70, 117, 110]⟩, ⟨#[78, 117, 108, 108]⟩]
/-- How many an op has. -/
def arityS (s : ByteArray) : Nat := cond (eqS s ⟨#[115, 101, 116]⟩) 3 (cond (eqS s ⟨#[110, 111, 116]⟩) 1 (cond (has testsL s) 1 2))
/-- The value of a node. -/
def nodeV (i : Int) (nm ar : ByteArray) (a : Option Addr) (n c : Nat) (pos : Int) : List Value := [.int .i64 i, .string nm, .string ar, .slice a n c, .int .i64 pos]

theorem row_ret {s : Int} {k : Nat} (hk : k ≤ 1000000) (M : Mem) : ∃ a c M', Ret Try.prog 65 [.int .i64 s, .int .i64 (Int.ofNat k)] M (.slice a k c) M' ∧ Own M M' 1 a k c (List.replicate k (.int .i64 s)) := by
  have key := Ret.wpH hP (K := fun v M' => ∃ a c, v = .slice a k c ∧ Own M M' 1 a k c (List.replicate k (.int .i64 s))) (w65 (p0 := s) (p1 := Int.ofNat k) (M := M) (by
    intro t0 hT
    obtain ⟨a, n, c, M', hL, hn, hO⟩ := loop65_0 (ut0 := s) (ut1 := Int.ofNat k) (d := []) (rc := false)
      (Inv := fun m a n c t M1 => t = Int.ofNat n ∧ n ≤ k ∧ m = k - n ∧ Own M M1 1 a n c (List.replicate n (.int .i64 s)))
      (R0 := fun a n c M1 => n = k ∧ Own M M1 1 a n c (List.replicate n (.int .i64 s)))
      (step := by
        rintro m a n c t M1 ⟨rfl, hn, hm, hO⟩
        refine cnd_of (fun h3 => ?_) (fun h3 => ?_)
        · have h3 : n < k := by
            have : leF (Int.ofNat k) (Int.ofNat n) = false := by simpa using h3
            exact Int.ofNat_lt.1 (leF_f.1 this)
          obtain ⟨a', c', M2, h4, h5⟩ := append_own E22 (hO.keep (.app M1 [.cells [.int .i64 s] 1 .live])) (src_at (c := 1) (get_last _ _) rfl) rfl rfl (by omega) (by omega)
          refine ⟨_, _, _, _, h4, k - (n + 1), by omega, add64 (by omega), by omega, rfl, ?_⟩
          have e : List.replicate (n + 1) (Value.int .i64 s) = List.replicate n (.int .i64 s) ++ [.int .i64 s] := List.replicate_succ'
          rw [e]; exact h5
        · have h3 : ¬ n < k := by
            intro hlt
            have : leF (Int.ofNat k) (Int.ofNat n) = true := by simpa using h3
            have := Int.ofNat_le.1 (leF_t.1 this)
            omega
          exact ⟨by omega, hO⟩)
      (n := k) (t5 := none) (t5n := 0) (t5c := 0) (t6 := Int.ofNat 0) (M := M) ⟨rfl, Nat.zero_le _, rfl, Own.nil M 1⟩ hT
    subst hn
    exact ⟨a, n, c, M', hL, fun _ => ⟨a, c, rfl, hO⟩⟩))
  obtain ⟨v, M', h1, a, c, rfl, h2⟩ := key
  exact ⟨a, c, M', h1, h2⟩

theorem tests_ret (M : Mem) : Ret Try.prog 91 [] M (.slice (some ⟨M.length, 0, none⟩) 6 6) (M ++ [.cells (strs testsL) 1 .live]) := Ret.wpToH hP (w91 ⟨rfl, rfl⟩)
theorem tags_ret (M : Mem) : Ret Try.prog 69 [] M (.slice (some ⟨M.length, 0, none⟩) 7 7) (M ++ [.cells (strs tagsL) 1 .live]) := Ret.wpToH hP (w69 ⟨rfl, rfl⟩)
theorem ops_ret (M : Mem) : ∃ a c M', Ret Try.prog 68 [] M (.slice a 16 c) M' ∧ Own M M' 1 a 16 c (strs opsL) := by
  have key := Ret.wpH hP (K := fun v M' => ∃ a c, v = .slice a 16 c ∧ Own M M' 1 a 16 c (strs opsL)) (w68 (M := M) (by
    refine ⟨_, _, _, _, tests_ret _, ?_⟩
    have hO : Own M (M ++ [.cells (strs basicL) 1 .live]) 1 (some ⟨M.length, 0, none⟩) 10 10 (strs basicL) := ⟨.app _ _, rfl, .inr ⟨_, rfl, Nat.le_refl _, get_last _ _, .inr rfl⟩⟩
    obtain ⟨a', c', M2, h4, h5⟩ := append_own E53 (hO.keep (.app _ [.cells (strs testsL) 1 .live])) (src_at (n := 6) (c := 6) (get_last _ _) rfl) rfl rfl (by omega) (by omega)
    exact ⟨_, _, _, _, h4, _, _, rfl, h5⟩))
  obtain ⟨v, M', h1, a, c, rfl, h2⟩ := key
  exact ⟨a, c, M', h1, h2⟩
theorem arity_ret (s : ByteArray) (M : Mem) : ∃ M', Ret Try.prog 66 [.string s] M (.int .i64 (Int.ofNat (arityS s))) M' ∧ Keep M M' := by
  have key := Ret.wpH hP (K := fun v M' => v = .int .i64 (Int.ofNat (arityS s)) ∧ Keep M M') (w66 (p0 := s) (M := M) (by
    unfold arityS
    refine cnd_of (fun h => ?_) (fun h => ?_)
    · rw [h]; exact ⟨rfl, .refl _⟩
    rw [h]
    refine cnd_of (fun h => ?_) (fun h => ?_)
    · rw [h]; exact ⟨rfl, .refl _⟩
    rw [h]
    refine ⟨_, _, _, _, tests_ret _, _, _, among_ret (l := testsL) (Row.new M (strs testsL) []) (by decide), cnd_of (fun h => ?_) (fun h => ?_)⟩
    · rw [h]; exact ⟨rfl, .app _ _⟩
    · rw [h]; exact ⟨rfl, .app _ _⟩))
  obtain ⟨v, M', h1, rfl, h2⟩ := key
  exact ⟨M', h1, h2⟩

/-- May a node of a kind have this name, and this arg? -/
def namedS (i : Int) (nm ar : ByteArray) : Bool := cond (eqF i (Int.ofNat 0)) (isNumber nm && eqS ar noText) (cond (eqF i (Int.ofNat 35)) (isNumber nm && eqS ar noText) (cond (eqF i (Int.ofNat 1)) (eqS ar noText) (cond (eqF i (Int.ofNat 5)) (bindable nm && eqS ar noText) (cond (eqF i (Int.ofNat 13)) (bindable nm && bindable ar) (cond (eqF i (Int.ofNat 6)) (eqS nm noText && bindable ar) (cond (eqF i (Int.ofNat 7)) (eqS nm noText && bindable ar) (cond (eqF i (Int.ofNat 15)) (eqS nm noText && bindable ar) (cond (eqF i (Int.ofNat 16)) (eqS nm noText && bindable ar) (cond (eqF i (Int.ofNat 12)) (has opsL nm && eqS ar noText) (cond (eqF i (Int.ofNat 14)) (has tagsL nm && eqS ar noText) (cond (eqF i (Int.ofNat 21)) (has tagsL.tail nm && eqS ar noText) ((eqS nm noText && eqS ar noText)))))))))))))

theorem refNamed_ret {i : Int} {nm ar : ByteArray} {a : Option Addr} {n c : Nat} {pos : Int} (hn : Short nm) (ha : Short ar) (M : Mem) : ∃ M', Ret Try.prog 36 [.agg ⟨nodeV i nm ar a n c pos⟩] M (.bool (namedS i nm ar)) M' ∧ Keep M M' := by
  have hAt := At.last M (nodeV i nm ar a n c pos) 5
  have hK : Keep M (M ++ [.cells (nodeV i nm ar a n c pos) 5 .live]) := .app _ _
  have key := Ret.wpH hP (K := fun v M' => v = .bool (namedS i nm ar) ∧ Keep M M') (w36 (p00 := i) (p01 := nm) (p02 := ar) (p03 := a) (p03n := n) (p03c := c) (p04 := pos) (M := M) (by
    refine ⟨_, hAt.rd k9 rfl, _, hAt.rd k9 rfl, trivial, _, hAt.rd k3 rfl, ?_⟩
    have two : ∀ {x y : Bool} {M' : Mem}, Keep M M' → cnd x (Value.bool y = .bool (x && y) ∧ Keep M M') (Value.bool false = .bool (x && y) ∧ Keep M M') := fun hk => cnd_of (fun e => ⟨by rw [e, Bool.true_and], hk⟩) (fun e => ⟨by rw [e, Bool.false_and], hk⟩)
    refine cnd_of (fun h0 => ?_) (fun h0 => ?_)
    · have e : namedS i nm ar = (isNumber nm && eqS ar noText) := by simp only [namedS, h0, cond_true, cond_false]
      rw [e]
      exact ⟨_, hAt.rd k9 rfl, _, _, refNumber_ret hn _, two hK⟩
    refine cnd_of (fun h35 => ?_) (fun h35 => ?_)
    · have e : namedS i nm ar = (isNumber nm && eqS ar noText) := by simp only [namedS, h0, h35, cond_true, cond_false]
      rw [e]
      exact ⟨_, hAt.rd k9 rfl, _, _, refNumber_ret hn _, two hK⟩
    refine cnd_of (fun h1 => ?_) (fun h1 => ?_)
    · have e : namedS i nm ar = (eqS ar noText) := by simp only [namedS, h0, h35, h1, cond_true, cond_false]
      rw [e]
      exact ⟨rfl, hK⟩
    refine cnd_of (fun h5 => ?_) (fun h5 => ?_)
    · have e : namedS i nm ar = (bindable nm && eqS ar noText) := by simp only [namedS, h0, h35, h1, h5, cond_true, cond_false]
      rw [e]
      exact ⟨_, hAt.rd k9 rfl, _, _, refBind_ret hn _, two hK⟩
    refine cnd_of (fun h13 => ?_) (fun h13 => ?_)
    · have e : namedS i nm ar = (bindable nm && bindable ar) := by simp only [namedS, h0, h35, h1, h5, h13, cond_true, cond_false]
      rw [e]
      exact ⟨_, hAt.rd k9 rfl, _, _, refBind_ret hn _, _, hAt.rd k9 rfl, _, _, refBind_ret ha _, two hK⟩
    refine cnd_of (fun h6 => ?_) (fun h6 => ?_)
    · have e : namedS i nm ar = (eqS nm noText && bindable ar) := by simp only [namedS, h0, h35, h1, h5, h13, h6, cond_true, cond_false]
      rw [e]
      exact ⟨_, hAt.rd k9 rfl, _, _, refBind_ret ha _, two hK⟩
    refine cnd_of (fun h7 => ?_) (fun h7 => ?_)
    · have e : namedS i nm ar = (eqS nm noText && bindable ar) := by simp only [namedS, h0, h35, h1, h5, h13, h6, h7, cond_true, cond_false]
      rw [e]
      exact ⟨_, hAt.rd k9 rfl, _, _, refBind_ret ha _, two hK⟩
    refine cnd_of (fun h15 => ?_) (fun h15 => ?_)
    · have e : namedS i nm ar = (eqS nm noText && bindable ar) := by simp only [namedS, h0, h35, h1, h5, h13, h6, h7, h15, cond_true, cond_false]
      rw [e]
      exact ⟨_, hAt.rd k9 rfl, _, _, refBind_ret ha _, two hK⟩
    refine cnd_of (fun h16 => ?_) (fun h16 => ?_)
    · have e : namedS i nm ar = (eqS nm noText && bindable ar) := by simp only [namedS, h0, h35, h1, h5, h13, h6, h7, h15, h16, cond_true, cond_false]
      rw [e]
      exact ⟨_, hAt.rd k9 rfl, _, _, refBind_ret ha _, two hK⟩
    refine cnd_of (fun h12 => ?_) (fun h12 => ?_)
    · have e : namedS i nm ar = (has opsL nm && eqS ar noText) := by simp only [namedS, h0, h35, h1, h5, h13, h6, h7, h15, h16, h12, cond_true, cond_false]
      rw [e]
      obtain ⟨a', c', M', hr, hO⟩ := ops_ret (M ++ [.cells (nodeV i nm ar a n c pos) 5 .live])
      exact ⟨_, hAt.rd k9 rfl, _, _, _, _, hr, _, _, among_ret (l := opsL) hO.row (by decide), ⟨⟨fun hl => hO.1.same hl, trivial⟩, trivial⟩, two (hK.trans hO.1)⟩
    refine cnd_of (fun h14 => ?_) (fun h14 => ?_)
    · have e : namedS i nm ar = (has tagsL nm && eqS ar noText) := by simp only [namedS, h0, h35, h1, h5, h13, h6, h7, h15, h16, h12, h14, cond_true, cond_false]
      rw [e]
      have hk2 : Keep (M ++ [.cells (nodeV i nm ar a n c pos) 5 .live]) (M ++ [.cells (nodeV i nm ar a n c pos) 5 .live] ++ [.cells (strs tagsL) 1 .live]) := .app _ _
      exact ⟨_, hAt.rd k9 rfl, _, _, _, _, tags_ret _, _, _, among_ret (l := tagsL) (Row.new _ (strs tagsL) []) (by decide), ⟨⟨fun hl => hk2.same hl, trivial⟩, trivial⟩, two (hK.trans hk2)⟩
    refine cnd_of (fun h21 => ?_) (fun h21 => ?_)
    · have e : namedS i nm ar = (has tagsL.tail nm && eqS ar noText) := by simp only [namedS, h0, h35, h1, h5, h13, h6, h7, h15, h16, h12, h14, h21, cond_true, cond_false]
      rw [e]
      have hk2 : Keep (M ++ [.cells (nodeV i nm ar a n c pos) 5 .live]) (M ++ [.cells (nodeV i nm ar a n c pos) 5 .live] ++ [.cells (strs tagsL) 1 .live]) := .app _ _
      have hrow : Row (M ++ [.cells (nodeV i nm ar a n c pos) 5 .live] ++ [.cells (strs tagsL) 1 .live]) (some ⟨(M ++ [AObj.cells (nodeV i nm ar a n c pos) 5 .live]).length, 1, none⟩) (strs tagsL.tail) := by
        refine .inr ⟨_, 1, rfl, fun k hk => (At.last _ (strs tagsL) 1).cell ?_⟩
        have hk : k < 6 := hk
        rcases k with _ | _ | _ | _ | _ | _ | k <;> first | rfl | omega
      exact ⟨_, hAt.rd k9 rfl, _, _, _, _, tags_ret _, _, _, _, slice_cap (ty := 53) (e := 9) (size := 1) (by kernel_rfl) (by kernel_rfl) (bnd_nat _ _) rfl (by decide) (by decide) (by decide), _, _, among_ret (l := tagsL.tail) hrow (by decide), ⟨⟨fun hl => hk2.same hl, trivial⟩, trivial⟩, two (hK.trans hk2)⟩
    have e : namedS i nm ar = (eqS nm noText && eqS ar noText) := by simp only [namedS, h0, h35, h1, h5, h13, h6, h7, h15, h16, h12, h14, h21, cond_false]
    rw [e]
    exact two hK))
  obtain ⟨v, M', h1, rfl, h2⟩ := key
  exact ⟨M', h1, h2⟩


/-- The sorts of a node's kids, by its kind; may there be so many? -/
def sortsS (i : Int) (nm : ByteArray) (n : Nat) : List Int × Bool := cond (eqF i (Int.ofNat 10)) (List.replicate n 0, Nat.beq (n % 2) 0 && leF (Int.ofNat n) (Int.ofNat 128)) (cond (eqF i (Int.ofNat 17)) (List.replicate n 2, leF (Int.ofNat 2) (Int.ofNat n) && leF (Int.ofNat n) (Int.ofNat 64)) (cond (eqF i (Int.ofNat 18)) (List.replicate n 2, leF (Int.ofNat 2) (Int.ofNat n) && leF (Int.ofNat n) (Int.ofNat 64)) (cond (eqF i (Int.ofNat 27)) (List.replicate n 3, leF (Int.ofNat n) (Int.ofNat 64)) (cond (eqF i (Int.ofNat 28)) (List.replicate n 3, leF (Int.ofNat n) (Int.ofNat 64)) (cond (eqF i (Int.ofNat 12)) (List.replicate (arityS nm) 0, true) (cond (eqF i (Int.ofNat 6)) ([2, 2, 0], true) (cond (eqF i (Int.ofNat 13)) ([2, 2, 0], true) (cond (eqF i (Int.ofNat 7)) (List.replicate 2 0, true) (cond (eqF i (Int.ofNat 11)) (List.replicate 2 0, true) (cond (eqF i (Int.ofNat 8)) (List.replicate 3 0, true) (cond (eqF i (Int.ofNat 9)) (List.replicate 1 0, true) (cond (eqF i (Int.ofNat 15)) (List.replicate 1 3, true) (cond (eqF i (Int.ofNat 29)) (List.replicate 1 3, true) (cond (eqF i (Int.ofNat 16)) (List.replicate 2 2, true) (cond (eqF i (Int.ofNat 21)) (List.replicate 1 4, true) (cond (eqF i (Int.ofNat 22)) (List.replicate 2 5, true) (cond (eqF i (Int.ofNat 23)) (List.replicate 2 5, true) (cond (eqF i (Int.ofNat 24)) (List.replicate 2 5, true) (cond (eqF i (Int.ofNat 33)) (List.replicate 2 5, true) (cond (eqF i (Int.ofNat 34)) (List.replicate 2 5, true) (cond (eqF i (Int.ofNat 25)) (List.replicate 2 4, true) (cond (eqF i (Int.ofNat 26)) (List.replicate 2 4, true) (cond (eqF i (Int.ofNat 31)) (List.replicate 2 4, true) (cond (eqF i (Int.ofNat 32)) (List.replicate 3 4, true) (cond (eqF i (Int.ofNat 35)) (List.replicate 1 5, true) (cond (eqF i (Int.ofNat 30)) ([4, 2], true) (([], true))))))))))))))))))))))))))))
theorem ints_rep (n : Nat) (x : Int) : ints (List.replicate n x) = List.replicate n (.int .i64 x) := by simp [ints]
theorem rem2 (n : Nat) (x y : Operand) : binA Try.prog .rem 3 x y (.int .i64 (Int.ofNat n)) (.int .i64 (Int.ofNat 2)) = some (.int .i64 (Int.ofNat (n % 2))) := by
  have h : binA Try.prog .rem 3 x y (.int .i64 (Int.ofNat n)) (.int .i64 (Int.ofNat 2)) = some (.int .i64 (Int.tmod (Int.ofNat n) (Int.ofNat 2))) := by kernel_rfl
  rw [h]; rfl
/-- What Kids answers. -/
def SortsRes (M : Mem) (v : Value) (r : List Int × Bool) : Prop := ∃ a c, v = .tuple ⟨[.slice a r.1.length c, .bool r.2]⟩ ∧ Row M a (ints r.1)
theorem eqF_nat (a b : Nat) : eqF (Int.ofNat a) (Int.ofNat b) = Nat.beq a b := rfl
theorem sorts_ret {i : Int} {nm ar : ByteArray} {a : Option Addr} {n c : Nat} {pos : Int} (hk : n ≤ 1000000) (M : Mem) : ∃ v M', Ret Try.prog 35 [.agg ⟨nodeV i nm ar a n c pos⟩] M v M' ∧ Keep M M' ∧ SortsRes M' v (sortsS i nm n) := by
  have hAt := At.last M (nodeV i nm ar a n c pos) 5
  have hK : Keep M (M ++ [.cells (nodeV i nm ar a n c pos) 5 .live]) := .app _ _
  refine Ret.wpH hP (K := fun v M' => Keep M M' ∧ SortsRes M' v (sortsS i nm n)) (w35 (p00 := i) (p01 := nm) (p02 := ar) (p03 := a) (p03n := n) (p03c := c) (p04 := pos) (M := M) ?_)
  refine ⟨_, _, _, hAt.rd k22 rfl, _, hAt.rd k3 rfl, ?_⟩
  have row : ∀ (x : Int) (k : Nat), k ≤ 1000000 → ∀ M0, Keep (M ++ [.cells (nodeV i nm ar a n c pos) 5 .live]) M0 → ∃ a' c' M', Ret Try.prog 65 [.int .i64 x, .int .i64 (Int.ofNat k)] M0 (.slice a' k c') M' ∧ Keep M M' ∧ Row M' a' (ints (List.replicate k x)) := by
    intro x k hk M0 h0
    obtain ⟨a', c', M', h1, h2⟩ := row_ret (s := x) hk M0
    exact ⟨a', c', M', h1, (hK.trans h0).trans h2.1, by rw [ints_rep]; exact h2.row⟩
  have lit : ∀ (l : List Int), Row (M ++ [.cells (nodeV i nm ar a n c pos) 5 .live] ++ [.cells (ints l) 1 .live]) (some ⟨(M ++ [AObj.cells (nodeV i nm ar a n c pos) 5 .live]).length, 0, none⟩) (ints l) := fun l => Row.new _ _ []
  have len : ∀ (k : Nat) (x : Int), (List.replicate k x).length = k := fun k x => List.length_replicate
  refine cnd_of (fun h10 => ?_) (fun h10 => ?_)
  · have e : sortsS i nm n = (List.replicate n 0, Nat.beq (n % 2) 0 && leF (Int.ofNat n) (Int.ofNat 128)) := by simp only [sortsS, h10, cond_true, cond_false]
    rw [e]
    obtain ⟨a', c', M', h1, h2, h3⟩ := row (Int.ofNat 0) n hk _ (.refl _)
    refine ⟨_, _, _, _, h1, _, rem2 _ _ _, ?_⟩
    rw [eqF_nat]
    exact cnd_of (fun h => ⟨h2, a', c', by rw [len, h, Bool.true_and], h3⟩) (fun h => ⟨h2, a', c', by rw [len, h, Bool.false_and], h3⟩)
  refine cnd_of (fun h17 => ?_) (fun h17 => ?_)
  · have e : sortsS i nm n = (List.replicate n 2, leF (Int.ofNat 2) (Int.ofNat n) && leF (Int.ofNat n) (Int.ofNat 64)) := by simp only [sortsS, h10, h17, cond_true, cond_false]
    rw [e]
    obtain ⟨a', c', M', h1, h2, h3⟩ := row (Int.ofNat 2) n hk _ (.refl _)
    exact ⟨_, _, _, _, h1, cnd_of (fun h => ⟨h2, a', c', by rw [len, h, Bool.true_and], h3⟩) (fun h => ⟨h2, a', c', by rw [len, h, Bool.false_and], h3⟩)⟩
  refine cnd_of (fun h18 => ?_) (fun h18 => ?_)
  · have e : sortsS i nm n = (List.replicate n 2, leF (Int.ofNat 2) (Int.ofNat n) && leF (Int.ofNat n) (Int.ofNat 64)) := by simp only [sortsS, h10, h17, h18, cond_true, cond_false]
    rw [e]
    obtain ⟨a', c', M', h1, h2, h3⟩ := row (Int.ofNat 2) n hk _ (.refl _)
    exact ⟨_, _, _, _, h1, cnd_of (fun h => ⟨h2, a', c', by rw [len, h, Bool.true_and], h3⟩) (fun h => ⟨h2, a', c', by rw [len, h, Bool.false_and], h3⟩)⟩
  refine cnd_of (fun h27 => ?_) (fun h27 => ?_)
  · have e : sortsS i nm n = (List.replicate n 3, leF (Int.ofNat n) (Int.ofNat 64)) := by simp only [sortsS, h10, h17, h18, h27, cond_true, cond_false]
    rw [e]
    obtain ⟨a', c', M', h1, h2, h3⟩ := row (Int.ofNat 3) n hk _ (.refl _)
    exact ⟨_, _, _, _, h1, h2, a', c', by rw [len], h3⟩
  refine cnd_of (fun h28 => ?_) (fun h28 => ?_)
  · have e : sortsS i nm n = (List.replicate n 3, leF (Int.ofNat n) (Int.ofNat 64)) := by simp only [sortsS, h10, h17, h18, h27, h28, cond_true, cond_false]
    rw [e]
    obtain ⟨a', c', M', h1, h2, h3⟩ := row (Int.ofNat 3) n hk _ (.refl _)
    exact ⟨_, _, _, _, h1, h2, a', c', by rw [len], h3⟩
  refine cnd_of (fun h12 => ?_) (fun h12 => ?_)
  · have e : sortsS i nm n = (List.replicate (arityS nm) 0, true) := by simp only [sortsS, h10, h17, h18, h27, h28, h12, cond_true, cond_false]
    rw [e]
    obtain ⟨M2, h4, h5⟩ := arity_ret nm (M ++ [.cells (nodeV i nm ar a n c pos) 5 .live])
    obtain ⟨a', c', M', h1, h2, h3⟩ := row (Int.ofNat 0) (arityS nm) (by unfold arityS; cases eqS nm _ <;> cases eqS nm _ <;> cases has testsL nm <;> decide) _ h5
    exact ⟨_, hAt.rd k9 rfl, _, _, h4, _, _, _, _, h1, h2, a', c', by rw [len], h3⟩
  refine cnd_of (fun h6 => ?_) (fun h6 => ?_)
  · have e : sortsS i nm n = ([2, 2, 0], true) := by simp only [sortsS, h10, h17, h18, h27, h28, h12, h6, cond_true, cond_false]
    rw [e]
    exact ⟨hK.trans (.app _ _), _, _, rfl, lit _⟩
  refine cnd_of (fun h13 => ?_) (fun h13 => ?_)
  · have e : sortsS i nm n = ([2, 2, 0], true) := by simp only [sortsS, h10, h17, h18, h27, h28, h12, h6, h13, cond_true, cond_false]
    rw [e]
    exact ⟨hK.trans (.app _ _), _, _, rfl, lit _⟩
  refine cnd_of (fun h7 => ?_) (fun h7 => ?_)
  · have e : sortsS i nm n = (List.replicate 2 0, true) := by simp only [sortsS, h10, h17, h18, h27, h28, h12, h6, h13, h7, cond_true, cond_false]
    rw [e]
    obtain ⟨a', c', M', h1, h2, h3⟩ := row (Int.ofNat 0) 2 (by decide) _ (.refl _)
    exact ⟨_, _, _, _, h1, h2, a', c', rfl, h3⟩
  refine cnd_of (fun h11 => ?_) (fun h11 => ?_)
  · have e : sortsS i nm n = (List.replicate 2 0, true) := by simp only [sortsS, h10, h17, h18, h27, h28, h12, h6, h13, h7, h11, cond_true, cond_false]
    rw [e]
    obtain ⟨a', c', M', h1, h2, h3⟩ := row (Int.ofNat 0) 2 (by decide) _ (.refl _)
    exact ⟨_, _, _, _, h1, h2, a', c', rfl, h3⟩
  refine cnd_of (fun h8 => ?_) (fun h8 => ?_)
  · have e : sortsS i nm n = (List.replicate 3 0, true) := by simp only [sortsS, h10, h17, h18, h27, h28, h12, h6, h13, h7, h11, h8, cond_true, cond_false]
    rw [e]
    obtain ⟨a', c', M', h1, h2, h3⟩ := row (Int.ofNat 0) 3 (by decide) _ (.refl _)
    exact ⟨_, _, _, _, h1, h2, a', c', rfl, h3⟩
  refine cnd_of (fun h9 => ?_) (fun h9 => ?_)
  · have e : sortsS i nm n = (List.replicate 1 0, true) := by simp only [sortsS, h10, h17, h18, h27, h28, h12, h6, h13, h7, h11, h8, h9, cond_true, cond_false]
    rw [e]
    obtain ⟨a', c', M', h1, h2, h3⟩ := row (Int.ofNat 0) 1 (by decide) _ (.refl _)
    exact ⟨_, _, _, _, h1, h2, a', c', rfl, h3⟩
  refine cnd_of (fun h15 => ?_) (fun h15 => ?_)
  · have e : sortsS i nm n = (List.replicate 1 3, true) := by simp only [sortsS, h10, h17, h18, h27, h28, h12, h6, h13, h7, h11, h8, h9, h15, cond_true, cond_false]
    rw [e]
    obtain ⟨a', c', M', h1, h2, h3⟩ := row (Int.ofNat 3) 1 (by decide) _ (.refl _)
    exact ⟨_, _, _, _, h1, h2, a', c', rfl, h3⟩
  refine cnd_of (fun h29 => ?_) (fun h29 => ?_)
  · have e : sortsS i nm n = (List.replicate 1 3, true) := by simp only [sortsS, h10, h17, h18, h27, h28, h12, h6, h13, h7, h11, h8, h9, h15, h29, cond_true, cond_false]
    rw [e]
    obtain ⟨a', c', M', h1, h2, h3⟩ := row (Int.ofNat 3) 1 (by decide) _ (.refl _)
    exact ⟨_, _, _, _, h1, h2, a', c', rfl, h3⟩
  refine cnd_of (fun h16 => ?_) (fun h16 => ?_)
  · have e : sortsS i nm n = (List.replicate 2 2, true) := by simp only [sortsS, h10, h17, h18, h27, h28, h12, h6, h13, h7, h11, h8, h9, h15, h29, h16, cond_true, cond_false]
    rw [e]
    obtain ⟨a', c', M', h1, h2, h3⟩ := row (Int.ofNat 2) 2 (by decide) _ (.refl _)
    exact ⟨_, _, _, _, h1, h2, a', c', rfl, h3⟩
  refine cnd_of (fun h21 => ?_) (fun h21 => ?_)
  · have e : sortsS i nm n = (List.replicate 1 4, true) := by simp only [sortsS, h10, h17, h18, h27, h28, h12, h6, h13, h7, h11, h8, h9, h15, h29, h16, h21, cond_true, cond_false]
    rw [e]
    obtain ⟨a', c', M', h1, h2, h3⟩ := row (Int.ofNat 4) 1 (by decide) _ (.refl _)
    exact ⟨_, _, _, _, h1, h2, a', c', rfl, h3⟩
  refine cnd_of (fun h22 => ?_) (fun h22 => ?_)
  · have e : sortsS i nm n = (List.replicate 2 5, true) := by simp only [sortsS, h10, h17, h18, h27, h28, h12, h6, h13, h7, h11, h8, h9, h15, h29, h16, h21, h22, cond_true, cond_false]
    rw [e]
    obtain ⟨a', c', M', h1, h2, h3⟩ := row (Int.ofNat 5) 2 (by decide) _ (.refl _)
    exact ⟨_, _, _, _, h1, h2, a', c', rfl, h3⟩
  refine cnd_of (fun h23 => ?_) (fun h23 => ?_)
  · have e : sortsS i nm n = (List.replicate 2 5, true) := by simp only [sortsS, h10, h17, h18, h27, h28, h12, h6, h13, h7, h11, h8, h9, h15, h29, h16, h21, h22, h23, cond_true, cond_false]
    rw [e]
    obtain ⟨a', c', M', h1, h2, h3⟩ := row (Int.ofNat 5) 2 (by decide) _ (.refl _)
    exact ⟨_, _, _, _, h1, h2, a', c', rfl, h3⟩
  refine cnd_of (fun h24 => ?_) (fun h24 => ?_)
  · have e : sortsS i nm n = (List.replicate 2 5, true) := by simp only [sortsS, h10, h17, h18, h27, h28, h12, h6, h13, h7, h11, h8, h9, h15, h29, h16, h21, h22, h23, h24, cond_true, cond_false]
    rw [e]
    obtain ⟨a', c', M', h1, h2, h3⟩ := row (Int.ofNat 5) 2 (by decide) _ (.refl _)
    exact ⟨_, _, _, _, h1, h2, a', c', rfl, h3⟩
  refine cnd_of (fun h33 => ?_) (fun h33 => ?_)
  · have e : sortsS i nm n = (List.replicate 2 5, true) := by simp only [sortsS, h10, h17, h18, h27, h28, h12, h6, h13, h7, h11, h8, h9, h15, h29, h16, h21, h22, h23, h24, h33, cond_true, cond_false]
    rw [e]
    obtain ⟨a', c', M', h1, h2, h3⟩ := row (Int.ofNat 5) 2 (by decide) _ (.refl _)
    exact ⟨_, _, _, _, h1, h2, a', c', rfl, h3⟩
  refine cnd_of (fun h34 => ?_) (fun h34 => ?_)
  · have e : sortsS i nm n = (List.replicate 2 5, true) := by simp only [sortsS, h10, h17, h18, h27, h28, h12, h6, h13, h7, h11, h8, h9, h15, h29, h16, h21, h22, h23, h24, h33, h34, cond_true, cond_false]
    rw [e]
    obtain ⟨a', c', M', h1, h2, h3⟩ := row (Int.ofNat 5) 2 (by decide) _ (.refl _)
    exact ⟨_, _, _, _, h1, h2, a', c', rfl, h3⟩
  refine cnd_of (fun h25 => ?_) (fun h25 => ?_)
  · have e : sortsS i nm n = (List.replicate 2 4, true) := by simp only [sortsS, h10, h17, h18, h27, h28, h12, h6, h13, h7, h11, h8, h9, h15, h29, h16, h21, h22, h23, h24, h33, h34, h25, cond_true, cond_false]
    rw [e]
    obtain ⟨a', c', M', h1, h2, h3⟩ := row (Int.ofNat 4) 2 (by decide) _ (.refl _)
    exact ⟨_, _, _, _, h1, h2, a', c', rfl, h3⟩
  refine cnd_of (fun h26 => ?_) (fun h26 => ?_)
  · have e : sortsS i nm n = (List.replicate 2 4, true) := by simp only [sortsS, h10, h17, h18, h27, h28, h12, h6, h13, h7, h11, h8, h9, h15, h29, h16, h21, h22, h23, h24, h33, h34, h25, h26, cond_true, cond_false]
    rw [e]
    obtain ⟨a', c', M', h1, h2, h3⟩ := row (Int.ofNat 4) 2 (by decide) _ (.refl _)
    exact ⟨_, _, _, _, h1, h2, a', c', rfl, h3⟩
  refine cnd_of (fun h31 => ?_) (fun h31 => ?_)
  · have e : sortsS i nm n = (List.replicate 2 4, true) := by simp only [sortsS, h10, h17, h18, h27, h28, h12, h6, h13, h7, h11, h8, h9, h15, h29, h16, h21, h22, h23, h24, h33, h34, h25, h26, h31, cond_true, cond_false]
    rw [e]
    obtain ⟨a', c', M', h1, h2, h3⟩ := row (Int.ofNat 4) 2 (by decide) _ (.refl _)
    exact ⟨_, _, _, _, h1, h2, a', c', rfl, h3⟩
  refine cnd_of (fun h32 => ?_) (fun h32 => ?_)
  · have e : sortsS i nm n = (List.replicate 3 4, true) := by simp only [sortsS, h10, h17, h18, h27, h28, h12, h6, h13, h7, h11, h8, h9, h15, h29, h16, h21, h22, h23, h24, h33, h34, h25, h26, h31, h32, cond_true, cond_false]
    rw [e]
    obtain ⟨a', c', M', h1, h2, h3⟩ := row (Int.ofNat 4) 3 (by decide) _ (.refl _)
    exact ⟨_, _, _, _, h1, h2, a', c', rfl, h3⟩
  refine cnd_of (fun h35 => ?_) (fun h35 => ?_)
  · have e : sortsS i nm n = (List.replicate 1 5, true) := by simp only [sortsS, h10, h17, h18, h27, h28, h12, h6, h13, h7, h11, h8, h9, h15, h29, h16, h21, h22, h23, h24, h33, h34, h25, h26, h31, h32, h35, cond_true, cond_false]
    rw [e]
    obtain ⟨a', c', M', h1, h2, h3⟩ := row (Int.ofNat 5) 1 (by decide) _ (.refl _)
    exact ⟨_, _, _, _, h1, h2, a', c', rfl, h3⟩
  refine cnd_of (fun h30 => ?_) (fun h30 => ?_)
  · have e : sortsS i nm n = ([4, 2], true) := by simp only [sortsS, h10, h17, h18, h27, h28, h12, h6, h13, h7, h11, h8, h9, h15, h29, h16, h21, h22, h23, h24, h33, h34, h25, h26, h31, h32, h35, h30, cond_true, cond_false]
    rw [e]
    exact ⟨hK.trans (.app _ _), _, _, rfl, lit _⟩
  have e : sortsS i nm n = ([], true) := by simp only [sortsS, h10, h17, h18, h27, h28, h12, h6, h13, h7, h11, h8, h9, h15, h29, h16, h21, h22, h23, h24, h33, h34, h25, h26, h31, h32, h35, h30, cond_false]
  rw [e]
  exact ⟨hK, none, 0, rfl, .inl rfl⟩

def kidsS (i : Int) (nm ar : ByteArray) (n : Nat) : Option (List Int) :=
  cond (leF (Int.ofNat 0) i && (leF i (Int.ofNat 35) && (namedS i nm ar && ((sortsS i nm n).2 && Nat.beq (sortsS i nm n).1.length n)))) (some (sortsS i nm n).1) none
def KidsRes (M : Mem) (v : Value) (r : Option (List Int)) : Prop :=
  match r with
  | none => v = .tuple ⟨[.slice none 0 0, .bool false]⟩
  | some l => ∃ a c, v = .tuple ⟨[.slice a l.length c, .bool true]⟩ ∧ Row M a (ints l)
theorem refKids_ret {i : Int} {nm ar : ByteArray} {a : Option Addr} {n c : Nat} {pos : Int} (hn : Short nm) (ha : Short ar) (hk : n ≤ 1000000) (M : Mem) : ∃ v M', Ret Try.prog 13 [.agg ⟨nodeV i nm ar a n c pos⟩] M v M' ∧ Keep M M' ∧ KidsRes M' v (kidsS i nm ar n) := by
  have hAt := At.last M (nodeV i nm ar a n c pos) 5
  have hK : Keep M (M ++ [.cells (nodeV i nm ar a n c pos) 5 .live]) := .app _ _
  refine Ret.wpH hP (K := fun v M' => Keep M M' ∧ KidsRes M' v (kidsS i nm ar n)) (w13 (p00 := i) (p01 := nm) (p02 := ar) (p03 := a) (p03n := n) (p03c := c) (p04 := pos) (M := M) ?_)
  obtain ⟨v, M1, h1, hk1, a1, c1, rfl, hr1⟩ := sorts_ret (i := i) (nm := nm) (ar := ar) (a := a) (n := n) (c := c) (pos := pos) hk (M ++ [.cells (nodeV i nm ar a n c pos) 5 .live])
  have hA1 := hAt.keep hk1
  obtain ⟨M2, h2, hk2⟩ := refNamed_ret (i := i) (nm := nm) (ar := ar) (a := a) (n := n) (c := c) (pos := pos) hn ha M1
  have hA2 := hA1.keep hk2
  have k1 := hK.trans hk1
  have k2 := k1.trans hk2
  refine ⟨_, _, _, _, _, _, _, hAt.rdA k24 s24, _, _, _, _, _, h1, _, hA1.rd k3 rfl, ?_⟩
  unfold kidsS
  refine cnd_of (fun e => ?_) (fun e => ?_)
  · have e : leF (Int.ofNat 0) i = false := by simpa using e
    rw [e]; exact ⟨k1, rfl⟩
  have e : leF (Int.ofNat 0) i = true := by simpa using e
  rw [e, Bool.true_and]
  refine ⟨_, hA1.rd k3 rfl, cnd_of (fun e => ?_) (fun e => ?_)⟩
  · have e : leF i (Int.ofNat 35) = false := by simpa using e
    rw [e]; exact ⟨k1, rfl⟩
  have e : leF i (Int.ofNat 35) = true := by simpa using e
  rw [e, Bool.true_and]
  refine ⟨_, _, _, _, _, _, _, hA1.rdA k24 s24, _, _, h2, cnd_of (fun e => ?_) (fun e => ?_)⟩
  · have e : namedS i nm ar = false := by simpa using e
    rw [e]; exact ⟨k2, rfl⟩
  have e : namedS i nm ar = true := by simpa using e
  rw [e, Bool.true_and]
  refine cnd_of (fun e => ?_) (fun e => ?_)
  · have e : (sortsS i nm n).2 = false := by simpa using e
    rw [e]; exact ⟨k2, rfl⟩
  have e2 : (sortsS i nm n).2 = true := by simpa using e
  rw [e2, Bool.true_and]
  refine ⟨_, _, _, hA2.rd k22 rfl, ?_⟩
  rw [eqF_nat]
  refine cnd_of (fun e => ?_) (fun e => ?_)
  · have e : Nat.beq (sortsS i nm n).1.length n = false := by simpa using e
    rw [e]; exact ⟨k2, rfl⟩
  · have e : Nat.beq (sortsS i nm n).1.length n = true := by simpa using e
    rw [e]
    exact ⟨k2, a1, c1, rfl, hk2.row hr1⟩

end Go.Proofs.YtabkcbaknjenmaaAM

/-
  THE NODE LAWS: what the program says of a node's kids: the functions of a row.
-/
set_option linter.unusedVariables false
set_option linter.unusedSimpArgs false
namespace Go.Proofs.YtabkcbaknjenmaaAM
open Go Go.Proofs
set_option maxRecDepth 100000
set_option maxHeartbeats 4000000

theorem one_ret (a : Option Addr) (n c : Nat) (M : Mem) : Ret Try.prog 64 [.slice a n c] M (.func (.func 90) #[] ⟨[.pointer (some ⟨M.length, 0, none⟩)]⟩) (M ++ [AObj.cells [.slice a n c] 1 .live]) := Ret.wpToH hP (w64 ⟨rfl, rfl⟩)
theorem one1_ret {M : Mem} {x c : Nat} {a : Option Addr} {l : List ByteArray} (h : At M x [.slice a l.length c]) (hr : Row M a (strs l)) (hl : l.length < 4611686018427387904) (s : ByteArray) : Ret Try.prog 90 [.string s, .pointer (some ⟨x, 0, none⟩)] M (.bool (has l s)) M :=
  Ret.wpToH hP (w90 ⟨_, _, _, h.rd k53 rfl, _, _, contains_ret hr hl, rfl, rfl⟩)
theorem test_ret (s : ByteArray) (M : Mem) : Ret Try.prog 89 [.string s] M (.bool (has testsL s)) M := by
  suffices h : ∃ v M', Ret Try.prog 89 [.string s] [] v M' ∧ v = .bool (has testsL s) by
    obtain ⟨v, M', h, rfl⟩ := h
    exact h.plain rfl rfl M
  have h1 : At ([AObj.cells (strs testsL) 1 .live] ++ [AObj.cells [.slice (some ⟨0, 0, none⟩) 6 6] 1 .live]) 1 [.slice (some ⟨0, 0, none⟩) testsL.length 6] := At.last [AObj.cells (strs testsL) 1 .live] _ 1
  have h2 : Row ([AObj.cells (strs testsL) 1 .live] ++ [AObj.cells [.slice (some ⟨0, 0, none⟩) 6 6] 1 .live]) (some ⟨0, 0, none⟩) (strs testsL) := Row.new [] (strs testsL) [AObj.cells [.slice (some ⟨0, 0, none⟩) 6 6] 1 .live]
  have h3 := one1_ret h1 h2 (by decide) s
  exact Ret.wpH hP (w89 (.inl ⟨90, [.pointer (some ⟨1, 0, none⟩)], _, one_ret _ _ _ _, cnd_t' (by kernel_rfl) ⟨has testsL s, _, h3, rfl⟩⟩))
theorem has_app (a b : List ByteArray) (s : ByteArray) : has (a ++ b) s = (has a s || has b s) := by simp [has]
theorem op_ret (s : ByteArray) (M : Mem) : Ret Try.prog 62 [.string s] M (.bool (has opsL s)) M := by
  suffices h : ∃ v M', Ret Try.prog 62 [.string s] [] v M' ∧ v = .bool (has opsL s) by
    obtain ⟨v, M', h, rfl⟩ := h
    exact h.plain rfl rfl M
  have e : has opsL s = (has testsL s || has basicL s) := by rw [opsL, has_app, Bool.or_comm]
  refine Ret.wpH hP (w62 ⟨_, _, test_ret s _, cnd_of (fun h => ?_) (fun h => ?_)⟩)
  · rw [e, h]; rfl
  · have h1 : At ([AObj.cells (strs basicL) 1 .live] ++ [AObj.cells [.slice (some ⟨0, 0, none⟩) 10 10] 1 .live]) 1 [.slice (some ⟨0, 0, none⟩) basicL.length 10] := At.last [AObj.cells (strs basicL) 1 .live] _ 1
    have h2 : Row ([AObj.cells (strs basicL) 1 .live] ++ [AObj.cells [.slice (some ⟨0, 0, none⟩) 10 10] 1 .live]) (some ⟨0, 0, none⟩) (strs basicL) := Row.new [] (strs basicL) [AObj.cells [.slice (some ⟨0, 0, none⟩) 10 10] 1 .live]
    have h3 := one1_ret h1 h2 (by decide) s
    exact .inl ⟨90, [.pointer (some ⟨1, 0, none⟩)], _, one_ret _ _ _ _, cnd_t' (by kernel_rfl) ⟨has basicL s, _, h3, by rw [e, h]; rfl⟩⟩
theorem whatever_ret (s : ByteArray) (M : Mem) : Ret Try.prog 60 [.string s] M (.bool true) M := Ret.wpToH hP (w60 ⟨rfl, rfl⟩)

/-! ### What a row's functions are -/
def NameFn (M : Mem) (fv : Value) (f : ByteArray → Bool) : Prop :=
  (fv = .nilFunc ∧ ∀ s, f s = eqS s noText) ∨ ∃ g cap, fv = .func (.func g) #[] ⟨cap⟩ ∧ walksIn Try.prog g = true ∧ ∀ s M', Short s → Keep M M' → ∃ M2, Ret Try.prog g (.string s :: cap) M' (.bool (f s)) M2 ∧ Keep M' M2
def KidsFn (M : Mem) (fk : Value) (g : ByteArray → Nat → List Int × Bool) : Prop :=
  ∃ id cap, fk = .func (.func id) #[] ⟨cap⟩ ∧ walksIn Try.prog id = true ∧ ∀ i nm ar a n c pos M', Short nm → n ≤ 1000000 → Keep M M' →
    ∃ a' n' c' M2, Ret Try.prog id (.agg ⟨nodeV i nm ar a n c pos⟩ :: cap) M' (.tuple ⟨[.slice a' n' c', .bool (g nm n).2]⟩) M2 ∧ Keep M' M2 ∧ n' = (g nm n).1.length ∧ Row M2 a' (ints (g nm n).1)

theorem nameFn_num (M : Mem) : NameFn M (.func (.func 58) #[] #[]) isNumber := .inr ⟨58, [], rfl, by kernel_rfl, fun s M' hs _ => ⟨M', lexNumber_ret hs M', .refl _⟩⟩
theorem nameFn_any (M : Mem) : NameFn M (.func (.func 60) #[] #[]) (fun _ => true) := .inr ⟨60, [], rfl, by kernel_rfl, fun s M' hs _ => ⟨M', whatever_ret s M', .refl _⟩⟩
theorem nameFn_name (M : Mem) : NameFn M (.func (.func 16) #[] #[]) bindable := .inr ⟨16, [], rfl, by kernel_rfl, fun s M' hs _ => ⟨M', nodeName_ret hs M', .refl _⟩⟩
theorem nameFn_op (M : Mem) : NameFn M (.func (.func 62) #[] #[]) (has opsL) := .inr ⟨62, [], rfl, by kernel_rfl, fun s M' hs _ => ⟨M', op_ret s M', .refl _⟩⟩
theorem nameFn_none (M : Mem) : NameFn M .nilFunc (fun s => eqS s noText) := .inl ⟨rfl, fun _ => rfl⟩
theorem nameFn_one {M : Mem} {x c : Nat} {a : Option Addr} {l : List ByteArray} (h : At M x [.slice a l.length c]) (hr : Row M a (strs l)) (hl : l.length < 4611686018427387904) : NameFn M (.func (.func 90) #[] #[.pointer (some ⟨x, 0, none⟩)]) (has l) :=
  .inr ⟨90, [.pointer (some ⟨x, 0, none⟩)], rfl, by kernel_rfl, fun s M' hs hk => ⟨M', one1_ret (h.keep hk) (hk.row hr) hl s, .refl _⟩⟩

theorem these_ret {M : Mem} {x c0 : Nat} {a0 : Option Addr} {l : List Int} (h : At M x [.slice a0 l.length c0]) (hr : Row M a0 (ints l)) : KidsFn M (.func (.func 88) #[] #[.pointer (some ⟨x, 0, none⟩)]) (fun _ n => (l, Nat.beq l.length n)) := by
  refine ⟨88, [.pointer (some ⟨x, 0, none⟩)], rfl, by kernel_rfl, fun i nm ar a n c pos M' hs hn hk => ?_⟩
  have hA := (h.keep hk).keep (.app M' [AObj.cells (nodeV i nm ar a n c pos) 5 .live])
  refine ⟨_, _, _, _, Ret.wpToH hP (w88 (p00 := i) (p01 := nm) (p02 := ar) (p03 := a) (p03n := n) (p03c := c) (p04 := pos) ⟨_, _, _, hA.rd k22 rfl, _, _, _, hA.rd k22 rfl, _, _, _, (At.last M' (nodeV i nm ar a n c pos) 5).rd k22 rfl, trivial, rfl, rfl⟩), .app _ _, rfl, (hk.trans (.app _ _)).row hr⟩

theorem many_mk (s lo hi : Int) (M : Mem) : Ret Try.prog 57 [.int .i64 s, .int .i64 lo, .int .i64 hi] M (.func (.func 84) #[] ⟨[.pointer (some ⟨M.length, 0, none⟩), .pointer (some ⟨M.length + 1, 0, none⟩), .pointer (some ⟨M.length + 2, 0, none⟩)]⟩) (M ++ [AObj.cells [.int .i64 s] 1 .live, AObj.cells [.int .i64 lo] 1 .live, AObj.cells [.int .i64 hi] 1 .live]) := by
  refine Ret.wpToH hP (w57 ?_)
  have e1 : (M ++ [AObj.cells [.int .i64 s] 1 .live]).length = M.length + 1 := by simp
  have e2 : (M ++ [AObj.cells [.int .i64 s] 1 .live] ++ [AObj.cells [.int .i64 lo] 1 .live]).length = M.length + 2 := by simp
  rw [e1, e2]
  exact ⟨rfl, by simp⟩
theorem many_ret {M : Mem} {x y z : Nat} {s : Int} {lo hi : Nat} (hx : At M x [.int .i64 s]) (hy : At M y [.int .i64 (Int.ofNat lo)]) (hz : At M z [.int .i64 (Int.ofNat hi)]) :
    KidsFn M (.func (.func 84) #[] #[.pointer (some ⟨x, 0, none⟩), .pointer (some ⟨y, 0, none⟩), .pointer (some ⟨z, 0, none⟩)]) (fun _ n => (List.replicate n s, leF (Int.ofNat lo) (Int.ofNat n) && leF (Int.ofNat n) (Int.ofNat hi))) := by
  refine ⟨84, [.pointer (some ⟨x, 0, none⟩), .pointer (some ⟨y, 0, none⟩), .pointer (some ⟨z, 0, none⟩)], rfl, by kernel_rfl, fun i nm ar a n c pos M' hs hn hk => ?_⟩
  have hB := At.last M' (nodeV i nm ar a n c pos) 5
  have k1 : Keep M' (M' ++ [AObj.cells (nodeV i nm ar a n c pos) 5 .live]) := .app _ _
  have k2 : Keep M' (M' ++ [AObj.cells (nodeV i nm ar a n c pos) 5 .live] ++ [AObj.cells [.int .i64 s] 1 .live]) := k1.one _
  have hrep := repeat_ret (c := 1) (k := n) ((At.last (M' ++ [AObj.cells (nodeV i nm ar a n c pos) 5 .live]) [.int .i64 s] 1).cell (o := 0) rfl) hn
  have k3' : Keep (M' ++ [AObj.cells (nodeV i nm ar a n c pos) 5 .live] ++ [AObj.cells [.int .i64 s] 1 .live]) (M' ++ [AObj.cells (nodeV i nm ar a n c pos) 5 .live] ++ [AObj.cells [.int .i64 s] 1 .live] ++ [AObj.cells (List.replicate n (.int .i64 s)) 1 .live]) := .app _ _
  have k4' := k2.trans k3'
  have hy2 := (hy.keep hk).keep k4'
  have hz2 := (hz.keep hk).keep k4'
  have hcalm : (y < (M' ++ [AObj.cells (nodeV i nm ar a n c pos) 5 .live] ++ [AObj.cells [.int .i64 s] 1 .live]).length → (M' ++ [AObj.cells (nodeV i nm ar a n c pos) 5 .live] ++ [AObj.cells [.int .i64 s] 1 .live] ++ [AObj.cells (List.replicate n (.int .i64 s)) 1 .live])[y]? = (M' ++ [AObj.cells (nodeV i nm ar a n c pos) 5 .live] ++ [AObj.cells [.int .i64 s] 1 .live])[y]?) := fun hl => k3'.same hl
  obtain ⟨v, M2, h1, h2, h3⟩ := Ret.wpH hP (K := fun v M2 => v = .tuple ⟨[.slice (some ⟨(M' ++ [AObj.cells (nodeV i nm ar a n c pos) 5 .live] ++ [AObj.cells [.int .i64 s] 1 .live]).length, 0, none⟩) n n, .bool (leF (Int.ofNat lo) (Int.ofNat n) && leF (Int.ofNat n) (Int.ofNat hi))]⟩ ∧ M2 = M' ++ [AObj.cells (nodeV i nm ar a n c pos) 5 .live] ++ [AObj.cells [.int .i64 s] 1 .live] ++ [AObj.cells (List.replicate n (.int .i64 s)) 1 .live])
    (w84 (p00 := i) (p01 := nm) (p02 := ar) (p03 := a) (p03n := n) (p03c := c) (p04 := pos) ⟨_, _, _, hB.rd k22 rfl, _, ((hx.keep hk).keep k1).rd k3 rfl, _, _, _, _, hrep, _, hy2.rd k3 rfl,
      cnd_of (fun h => ⟨_, hz2.rd k3 rfl, ⟨⟨hcalm, trivial⟩, trivial⟩, by rw [h]; rfl, rfl⟩) (fun h => ⟨⟨⟨hcalm, trivial⟩, trivial⟩, by rw [h]; rfl, rfl⟩)⟩)
  subst h2; subst h3
  refine ⟨_, _, _, _, h1, k4', by simp, ?_⟩
  have := Row.new (M' ++ [AObj.cells (nodeV i nm ar a n c pos) 5 .live] ++ [AObj.cells [.int .i64 s] 1 .live]) (List.replicate n (.int .i64 s)) []
  rw [ints_rep]; exact this

theorem manyFn (s : Int) (lo hi : Nat) (M : Mem) : ∃ fk M2, Ret Try.prog 57 [.int .i64 s, .int .i64 (Int.ofNat lo), .int .i64 (Int.ofNat hi)] M fk M2 ∧ Keep M M2 ∧ KidsFn M2 fk (fun _ n => (List.replicate n s, leF (Int.ofNat lo) (Int.ofNat n) && leF (Int.ofNat n) (Int.ofNat hi))) := by
  refine ⟨_, _, many_mk _ _ _ M, .app _ _, many_ret ⟨1, .live, by decide, ?_⟩ ⟨1, .live, by decide, ?_⟩ ⟨1, .live, by decide, ?_⟩⟩
  · rw [List.getElem?_append_right (Nat.le_refl _), Nat.sub_self]; rfl
  · rw [List.getElem?_append_right (by omega), Nat.add_sub_cancel_left]; rfl
  · rw [List.getElem?_append_right (by omega), Nat.add_sub_cancel_left]; rfl

theorem pairs_ret (M : Mem) : KidsFn M (.func (.func 61) #[] #[]) (fun _ n => (List.replicate n 0, (leF (Int.ofNat 0) (Int.ofNat n) && leF (Int.ofNat n) (Int.ofNat 128)) && Nat.beq (n % 2) 0)) := by
  refine ⟨61, [], rfl, by kernel_rfl, fun i nm ar a n c pos M' hs hn hk => ?_⟩
  have hB := At.last M' (nodeV i nm ar a n c pos) 5
  have k1 : Keep M' (M' ++ [AObj.cells (nodeV i nm ar a n c pos) 5 .live]) := .app _ _
  obtain ⟨fk, M1, h1, hk1, id, cap, rfl, hw, hall⟩ := manyFn 0 0 128 (M' ++ [AObj.cells (nodeV i nm ar a n c pos) 5 .live])
  obtain ⟨a', n', c', M2, h2, hk2, hn', hr⟩ := hall i nm ar a n c pos M1 hs hn (.refl _)
  dsimp only at h2 hn' hr
  have hB1 := hB.keep hk1
  obtain ⟨v, M3, g1, g2, g3⟩ := Ret.wpH hP (K := fun v M3 => v = .tuple ⟨[.slice a' n' c', .bool ((leF (Int.ofNat 0) (Int.ofNat n) && leF (Int.ofNat n) (Int.ofNat 128)) && Nat.beq (n % 2) 0)]⟩ ∧ M3 = M2)
    (w61 (p00 := i) (p01 := nm) (p02 := ar) (p03 := a) (p03n := n) (p03c := c) (p04 := pos) (.inl ⟨id, cap, _, h1, _, _, _, _, _, _, _, hB1.rdA k24 s24, cnd_t' hw ⟨_, _, _, _, _, h2, ⟨⟨fun hl => hk1.same hl, trivial⟩, trivial⟩,
      cnd_of (fun h => ⟨_, rfl, by rw [h, Bool.true_and, hn']; simp only [List.length_replicate]; rfl, rfl⟩) (fun h => ⟨by rw [h, Bool.false_and], rfl⟩)⟩⟩))
  subst g2; subst g3
  exact ⟨_, _, _, _, g1, (k1.trans hk1).trans hk2, hn', hr⟩

theorem operands_ret (M : Mem) : KidsFn M (.func (.func 63) #[] #[]) (fun nm n => (List.replicate n 0, leF (Int.ofNat (arityS nm)) (Int.ofNat n) && leF (Int.ofNat n) (Int.ofNat (arityS nm)))) := by
  refine ⟨63, [], rfl, by kernel_rfl, fun i nm ar a n c pos M' hs hn hk => ?_⟩
  have hB := At.last M' (nodeV i nm ar a n c pos) 5
  have k1 : Keep M' (M' ++ [AObj.cells (nodeV i nm ar a n c pos) 5 .live]) := .app _ _
  have fin : ∀ (k : Nat), arityS nm = k → ∃ (x1 : FuncId) (M2 : List Value) (M3 : Mem), Ret Try.prog 57 [.int .i64 (Int.ofNat 0), .int .i64 (Int.ofNat k), .int .i64 (Int.ofNat k)] (M' ++ [AObj.cells (nodeV i nm ar a n c pos) 5 .live]) (.func (.func x1) ⟨[]⟩ ⟨M2⟩) M3 ∧ Keep (M' ++ [AObj.cells (nodeV i nm ar a n c pos) 5 .live]) M3 ∧ walksIn Try.prog x1 = true ∧
      ∃ a' n' c' M4, Ret Try.prog x1 (.agg ⟨nodeV i nm ar a n c pos⟩ :: M2) M3 (.tuple ⟨[.slice a' n' c', .bool (leF (Int.ofNat (arityS nm)) (Int.ofNat n) && leF (Int.ofNat n) (Int.ofNat (arityS nm)))]⟩) M4 ∧ Keep M3 M4 ∧ n' = (List.replicate n (0 : Int)).length ∧ Row M4 a' (ints (List.replicate n 0)) := by
    intro k e
    obtain ⟨fk, M1, h1, hk1, id, cap, rfl, hw, hall⟩ := manyFn 0 k k (M' ++ [AObj.cells (nodeV i nm ar a n c pos) 5 .live])
    obtain ⟨a', n', c', M2, h2, hk2, hn', hr⟩ := hall i nm ar a n c pos M1 hs hn (.refl _)
    subst e
    exact ⟨id, cap, M1, h1, hk1, hw, a', n', c', M2, h2, hk2, hn', hr⟩
  have key := Ret.wpH hP (K := fun v M3 => Keep M' M3 ∧ ∃ a' n' c', v = .tuple ⟨[.slice a' n' c', .bool (leF (Int.ofNat (arityS nm)) (Int.ofNat n) && leF (Int.ofNat n) (Int.ofNat (arityS nm)))]⟩ ∧ n' = (List.replicate n (0 : Int)).length ∧ Row M3 a' (ints (List.replicate n 0)))
    (w63 (p00 := i) (p01 := nm) (p02 := ar) (p03 := a) (p03n := n) (p03c := c) (p04 := pos) (M := M') (by
      refine ⟨_, hB.rd k9 rfl, cnd_of (fun h => ?_) (fun h => ?_)⟩
      · obtain ⟨id, cap, M1, h1, hk1, hw, a', n', c', M2, h2, hk2, hn', hr⟩ := fin 3 (by simp only [arityS, h, cond_true])
        exact .inl ⟨id, cap, _, h1, _, _, _, _, _, _, _, (hB.keep hk1).rdA k24 s24, cnd_t' hw ⟨_, _, _, _, _, h2, ⟨⟨fun hl => hk1.same hl, trivial⟩, trivial⟩, (k1.trans hk1).trans hk2, _, _, _, rfl, hn', hr⟩⟩
      refine ⟨_, hB.rd k9 rfl, cnd_of (fun h' => ?_) (fun h' => ?_)⟩
      · obtain ⟨id, cap, M1, h1, hk1, hw, a', n', c', M2, h2, hk2, hn', hr⟩ := fin 1 (by simp only [arityS, h, h', cond_true, cond_false])
        exact .inl ⟨id, cap, _, h1, _, _, _, _, _, _, _, (hB.keep hk1).rdA k24 s24, cnd_t' hw ⟨_, _, _, _, _, h2, ⟨⟨fun hl => hk1.same hl, trivial⟩, trivial⟩, (k1.trans hk1).trans hk2, _, _, _, rfl, hn', hr⟩⟩
      refine ⟨_, hB.rd k9 rfl, _, _, test_ret nm _, cnd_of (fun h'' => ?_) (fun h'' => ?_)⟩
      · obtain ⟨id, cap, M1, h1, hk1, hw, a', n', c', M2, h2, hk2, hn', hr⟩ := fin 1 (by simp only [arityS, h, h', h'', cond_true, cond_false])
        exact .inl ⟨id, cap, _, h1, _, _, _, _, _, _, _, (hB.keep hk1).rdA k24 s24, cnd_t' hw ⟨_, _, _, _, _, h2, ⟨⟨fun hl => hk1.same hl, trivial⟩, trivial⟩, (k1.trans hk1).trans hk2, _, _, _, rfl, hn', hr⟩⟩
      · obtain ⟨id, cap, M1, h1, hk1, hw, a', n', c', M2, h2, hk2, hn', hr⟩ := fin 2 (by simp only [arityS, h, h', h'', cond_true, cond_false])
        exact .inl ⟨id, cap, _, h1, _, _, _, _, _, _, _, (hB.keep hk1).rdA k24 s24, cnd_t' hw ⟨_, _, _, _, _, h2, ⟨⟨fun hl => hk1.same hl, trivial⟩, trivial⟩, (k1.trans hk1).trans hk2, _, _, _, rfl, hn', hr⟩⟩))
  obtain ⟨v, M3, g1, g2, a', n', c', rfl, g3, g4⟩ := key
  exact ⟨a', n', c', M3, g1, g2, g3, g4⟩

end Go.Proofs.YtabkcbaknjenmaaAM

/-
  THE NODE LAWS: what the program says of a node's kids, by its row.
-/
set_option linter.unusedVariables false
set_option linter.unusedSimpArgs false
namespace Go.Proofs.YtabkcbaknjenmaaAM
open Go Go.Proofs
set_option maxRecDepth 100000
set_option maxHeartbeats 4000000

def rowV (w : ByteArray) (fv : Value) (b : Bool) (fk : Value) : List Value := [.string w, fv, .bool b, fk]
def argOk (b : Bool) (ar : ByteArray) : Bool := cond b (bindable ar) (eqS ar noText)
theorem sorts34_ret {w : ByteArray} {fv fk : Value} {b : Bool} {f : ByteArray → Bool} {g : ByteArray → Nat → List Int × Bool} {M : Mem} (hf : NameFn M fv f) (hg : KidsFn M fk g)
    {i : Int} {nm ar : ByteArray} {a : Option Addr} {n c : Nat} {pos : Int} (hn : Short nm) (ha : Short ar) (hk : n ≤ 1000000) :
    ∃ v M', Ret Try.prog 34 [.agg ⟨rowV w fv b fk⟩, .agg ⟨nodeV i nm ar a n c pos⟩] M v M' ∧ Keep M M' ∧ KidsRes M' v (cond ((g nm n).2 && (f nm && argOk b ar)) (some (g nm n).1) none) := by
  obtain ⟨id, cap, rfl, hw, hall⟩ := hg
  refine Ret.wpH hP (K := fun v M' => Keep M M' ∧ KidsRes M' v (cond ((g nm n).2 && (f nm && argOk b ar)) (some (g nm n).1) none)) (w34 (p00 := w) (p01 := fv) (p02 := b) (p03 := .func (.func id) #[] ⟨cap⟩) (p10 := i) (p11 := nm) (p12 := ar) (p13 := a) (p13n := n) (p13c := c) (p14 := pos) (M := M) ?_)
  have hR : At (M ++ [AObj.cells (rowV w fv b (.func (.func id) #[] ⟨cap⟩)) 4 .live] ++ [AObj.cells (nodeV i nm ar a n c pos) 5 .live]) M.length (rowV w fv b (.func (.func id) #[] ⟨cap⟩)) := (At.last M _ 4).keep (.app _ _)
  have hN : At (M ++ [AObj.cells (rowV w fv b (.func (.func id) #[] ⟨cap⟩)) 4 .live] ++ [AObj.cells (nodeV i nm ar a n c pos) 5 .live]) (M ++ [AObj.cells (rowV w fv b (.func (.func id) #[] ⟨cap⟩)) 4 .live]).length (nodeV i nm ar a n c pos) := At.last _ _ 5
  have hK : Keep M (M ++ [AObj.cells (rowV w fv b (.func (.func id) #[] ⟨cap⟩)) 4 .live] ++ [AObj.cells (nodeV i nm ar a n c pos) 5 .live]) := (Keep.app _ _).one _
  have fin : ∀ (x y : Bool) (a' : Option Addr) (n' c' : Nat) (M2 : Mem), Keep M M2 → n' = (g nm n).1.length → Row M2 a' (ints (g nm n).1) →
      cnd (g nm n).2 (cnd x (cnd y (Keep M M2 ∧ KidsRes M2 (.tuple ⟨[.slice a' n' c', .bool true]⟩) (cond ((g nm n).2 && (x && y)) (some (g nm n).1) none)) (Keep M M2 ∧ KidsRes M2 (.tuple ⟨[.slice none 0 0, .bool false]⟩) (cond ((g nm n).2 && (x && y)) (some (g nm n).1) none)))
        (Keep M M2 ∧ KidsRes M2 (.tuple ⟨[.slice none 0 0, .bool false]⟩) (cond ((g nm n).2 && (x && y)) (some (g nm n).1) none))) (Keep M M2 ∧ KidsRes M2 (.tuple ⟨[.slice none 0 0, .bool false]⟩) (cond ((g nm n).2 && (x && y)) (some (g nm n).1) none)) := by
    intro x y a' n' c' M2 k e r
    subst e
    refine cnd_of (fun h => ?_) (fun h => by rw [h]; exact ⟨k, rfl⟩)
    refine cnd_of (fun h1 => ?_) (fun h1 => by rw [h, h1]; exact ⟨k, rfl⟩)
    refine cnd_of (fun h2 => ?_) (fun h2 => by rw [h, h1, h2]; exact ⟨k, rfl⟩)
    rw [h, h1, h2]
    exact ⟨k, a', c', rfl, r⟩
  rcases hf with ⟨rfl, hf⟩ | ⟨g0, cap0, rfl, hw0, hf⟩
  · have hfe : eqS nm noText = f nm := (hf nm).symm
    refine ⟨_, hN.rd k9 rfl, .inr ⟨hR.rd k38 rfl, false, rfl, ?_⟩⟩
    refine cnd_f ⟨_, hN.rd k9 rfl, _, hR.rd k4 rfl, cnd_of (fun hb => ?_) (fun hb => ?_)⟩
    · have harg : argOk b ar = bindable ar := by rw [hb]; rfl
      obtain ⟨a', n', c', M2, h2, hk2, hn', hr⟩ := hall i nm ar a n c pos _ hn hk hK
      have := fin (f nm) (argOk b ar) a' n' c' M2 (hK.trans hk2) hn' hr
      rw [← hfe, harg] at this
      refine ⟨_, hN.rd k9 rfl, _, _, nodeName_ret ha _, .inl ⟨id, cap, hR.rd k36 rfl, _, _, _, _, _, _, _, hN.rdA k24 s24, cnd_t' hw ⟨_, _, _, _, _, h2, ?_⟩⟩⟩
      rw [harg, ← hfe]; exact this
    · have harg : argOk b ar = eqS ar noText := by rw [hb]; rfl
      obtain ⟨a', n', c', M2, h2, hk2, hn', hr⟩ := hall i nm ar a n c pos _ hn hk hK
      have := fin (f nm) (argOk b ar) a' n' c' M2 (hK.trans hk2) hn' hr
      rw [← hfe, harg] at this
      refine .inl ⟨id, cap, hR.rd k36 rfl, _, _, _, _, _, _, _, hN.rdA k24 s24, cnd_t' hw ⟨_, _, _, _, _, h2, ?_⟩⟩
      rw [harg, ← hfe]; exact this
  · refine ⟨_, hN.rd k9 rfl, .inl ⟨g0, cap0, hR.rd k38 rfl, true, rfl, ?_⟩⟩
    obtain ⟨M1, h1, hk1⟩ := hf nm _ hn hK
    refine cnd_t (.inl ⟨g0, cap0, hR.rd k38 rfl, _, hN.rd k9 rfl, cnd_t' hw0 ⟨_, _, h1, _, (hN.keep hk1).rd k9 rfl, _, (hR.keep hk1).rd k4 rfl, cnd_of (fun hb => ?_) (fun hb => ?_)⟩⟩)
    · have harg : argOk b ar = bindable ar := by rw [hb]; rfl
      obtain ⟨a', n', c', M2, h2, hk2, hn', hr⟩ := hall i nm ar a n c pos _ hn hk (hK.trans hk1)
      have := fin (f nm) (argOk b ar) a' n' c' M2 ((hK.trans hk1).trans hk2) hn' hr
      rw [harg] at this
      refine ⟨_, (hN.keep hk1).rd k9 rfl, _, _, nodeName_ret ha _, .inl ⟨id, cap, (hR.keep hk1).rd k36 rfl, _, _, _, _, _, _, _, (hN.keep hk1).rdA k24 s24, cnd_t' hw ⟨_, _, _, _, _, h2, ?_⟩⟩⟩
      rw [harg]; exact this
    · have harg : argOk b ar = eqS ar noText := by rw [hb]; rfl
      obtain ⟨a', n', c', M2, h2, hk2, hn', hr⟩ := hall i nm ar a n c pos _ hn hk (hK.trans hk1)
      have := fin (f nm) (argOk b ar) a' n' c' M2 ((hK.trans hk1).trans hk2) hn' hr
      rw [harg] at this
      refine .inl ⟨id, cap, (hR.keep hk1).rd k36 rfl, _, _, _, _, _, _, _, (hN.keep hk1).rdA k24 s24, cnd_t' hw ⟨_, _, _, _, _, h2, ?_⟩⟩
      rw [harg]; exact this

end Go.Proofs.YtabkcbaknjenmaaAM

/-
  THE NODE LAWS: the program's table of rows.
-/
set_option linter.unusedVariables false
set_option linter.unusedSimpArgs false
namespace Go.Proofs.YtabkcbaknjenmaaAM
open Go Go.Proofs
set_option maxRecDepth 100000
set_option maxHeartbeats 4000000

/-- The rows, where d is the first id. -/
def rowsEs (d : Nat) : List (Value × Value) := [
(.int .i64 (Int.ofNat 0), .agg ⟨rowV ⟨#[]⟩ (.func (.func 58) #[] #[]) false (.func (.func 88) #[] #[.pointer (some ⟨d + 1, 0, none⟩)])⟩),
  (.int .i64 (Int.ofNat 1), .agg ⟨rowV ⟨#[]⟩ (.func (.func 60) #[] #[]) false (.func (.func 88) #[] #[.pointer (some ⟨d + 2, 0, none⟩)])⟩),
  (.int .i64 (Int.ofNat 2), .agg ⟨rowV ⟨#[116, 114, 117, 101]⟩ (.nilFunc) false (.func (.func 88) #[] #[.pointer (some ⟨d + 3, 0, none⟩)])⟩),
  (.int .i64 (Int.ofNat 3), .agg ⟨rowV ⟨#[102, 97, 108, 115, 101]⟩ (.nilFunc) false (.func (.func 88) #[] #[.pointer (some ⟨d + 4, 0, none⟩)])⟩),
  (.int .i64 (Int.ofNat 4), .agg ⟨rowV ⟨#[110, 117, 108, 108]⟩ (.nilFunc) false (.func (.func 88) #[] #[.pointer (some ⟨d + 5, 0, none⟩)])⟩),
  (.int .i64 (Int.ofNat 5), .agg ⟨rowV ⟨#[]⟩ (.func (.func 16) #[] #[]) false (.func (.func 88) #[] #[.pointer (some ⟨d + 6, 0, none⟩)])⟩),
  (.int .i64 (Int.ofNat 6), .agg ⟨rowV ⟨#[102, 110]⟩ (.nilFunc) true (.func (.func 88) #[] #[.pointer (some ⟨d + 8, 0, none⟩)])⟩),
  (.int .i64 (Int.ofNat 7), .agg ⟨rowV ⟨#[108, 101, 116]⟩ (.nilFunc) true (.func (.func 88) #[] #[.pointer (some ⟨d + 10, 0, none⟩)])⟩),
  (.int .i64 (Int.ofNat 8), .agg ⟨rowV ⟨#[105, 102]⟩ (.nilFunc) false (.func (.func 88) #[] #[.pointer (some ⟨d + 12, 0, none⟩)])⟩),
  (.int .i64 (Int.ofNat 9), .agg ⟨rowV ⟨#[97, 115, 115, 101, 114, 116]⟩ (.nilFunc) false (.func (.func 88) #[] #[.pointer (some ⟨d + 14, 0, none⟩)])⟩),
  (.int .i64 (Int.ofNat 11), .agg ⟨rowV ⟨#[99, 97, 108, 108]⟩ (.nilFunc) false (.func (.func 88) #[] #[.pointer (some ⟨d + 16, 0, none⟩)])⟩),
  (.int .i64 (Int.ofNat 10), .agg ⟨rowV ⟨#[100, 105, 99, 116]⟩ (.nilFunc) false (.func (.func 61) #[] #[])⟩),
  (.int .i64 (Int.ofNat 12), .agg ⟨rowV ⟨#[]⟩ (.func (.func 62) #[] #[]) false (.func (.func 63) #[] #[])⟩),
  (.int .i64 (Int.ofNat 13), .agg ⟨rowV ⟨#[100, 101, 102]⟩ (.func (.func 16) #[] #[]) true (.func (.func 88) #[] #[.pointer (some ⟨d + 18, 0, none⟩)])⟩),
  (.int .i64 (Int.ofNat 14), .agg ⟨rowV ⟨#[]⟩ (.func (.func 90) #[] #[.pointer (some ⟨d + 20, 0, none⟩)]) false (.func (.func 88) #[] #[.pointer (some ⟨d + 21, 0, none⟩)])⟩),
  (.int .i64 (Int.ofNat 15), .agg ⟨rowV ⟨#[119, 104, 101, 114, 101]⟩ (.nilFunc) true (.func (.func 88) #[] #[.pointer (some ⟨d + 23, 0, none⟩)])⟩),
  (.int .i64 (Int.ofNat 16), .agg ⟨rowV ⟨#[45, 62]⟩ (.nilFunc) true (.func (.func 88) #[] #[.pointer (some ⟨d + 25, 0, none⟩)])⟩),
  (.int .i64 (Int.ofNat 17), .agg ⟨rowV ⟨#[111, 114]⟩ (.nilFunc) false (.func (.func 84) #[] #[.pointer (some ⟨d + 26, 0, none⟩), .pointer (some ⟨d + 27, 0, none⟩), .pointer (some ⟨d + 28, 0, none⟩)])⟩),
  (.int .i64 (Int.ofNat 18), .agg ⟨rowV ⟨#[97, 110, 100]⟩ (.nilFunc) false (.func (.func 84) #[] #[.pointer (some ⟨d + 29, 0, none⟩), .pointer (some ⟨d + 30, 0, none⟩), .pointer (some ⟨d + 31, 0, none⟩)])⟩),
  (.int .i64 (Int.ofNat 19), .agg ⟨rowV ⟨#[116, 114, 117, 101]⟩ (.nilFunc) false (.func (.func 88) #[] #[.pointer (some ⟨d + 32, 0, none⟩)])⟩),
  (.int .i64 (Int.ofNat 20), .agg ⟨rowV ⟨#[102, 97, 108, 115, 101]⟩ (.nilFunc) false (.func (.func 88) #[] #[.pointer (some ⟨d + 33, 0, none⟩)])⟩),
  (.int .i64 (Int.ofNat 21), .agg ⟨rowV ⟨#[]⟩ (.func (.func 90) #[] #[.pointer (some ⟨d + 35, 0, none⟩)]) false (.func (.func 88) #[] #[.pointer (some ⟨d + 37, 0, none⟩)])⟩),
  (.int .i64 (Int.ofNat 22), .agg ⟨rowV ⟨#[60, 61]⟩ (.nilFunc) false (.func (.func 88) #[] #[.pointer (some ⟨d + 39, 0, none⟩)])⟩),
  (.int .i64 (Int.ofNat 23), .agg ⟨rowV ⟨#[60]⟩ (.nilFunc) false (.func (.func 88) #[] #[.pointer (some ⟨d + 41, 0, none⟩)])⟩),
  (.int .i64 (Int.ofNat 24), .agg ⟨rowV ⟨#[61, 61]⟩ (.nilFunc) false (.func (.func 88) #[] #[.pointer (some ⟨d + 43, 0, none⟩)])⟩),
  (.int .i64 (Int.ofNat 25), .agg ⟨rowV ⟨#[61]⟩ (.nilFunc) false (.func (.func 88) #[] #[.pointer (some ⟨d + 45, 0, none⟩)])⟩),
  (.int .i64 (Int.ofNat 26), .agg ⟨rowV ⟨#[104, 97, 115]⟩ (.nilFunc) false (.func (.func 88) #[] #[.pointer (some ⟨d + 47, 0, none⟩)])⟩),
  (.int .i64 (Int.ofNat 30), .agg ⟨rowV ⟨#[105, 115]⟩ (.nilFunc) false (.func (.func 88) #[] #[.pointer (some ⟨d + 49, 0, none⟩)])⟩),
  (.int .i64 (Int.ofNat 27), .agg ⟨rowV ⟨#[97, 110, 100]⟩ (.nilFunc) false (.func (.func 84) #[] #[.pointer (some ⟨d + 50, 0, none⟩), .pointer (some ⟨d + 51, 0, none⟩), .pointer (some ⟨d + 52, 0, none⟩)])⟩),
  (.int .i64 (Int.ofNat 28), .agg ⟨rowV ⟨#[111, 114]⟩ (.nilFunc) false (.func (.func 84) #[] #[.pointer (some ⟨d + 53, 0, none⟩), .pointer (some ⟨d + 54, 0, none⟩), .pointer (some ⟨d + 55, 0, none⟩)])⟩),
  (.int .i64 (Int.ofNat 29), .agg ⟨rowV ⟨#[110, 111, 116]⟩ (.nilFunc) false (.func (.func 88) #[] #[.pointer (some ⟨d + 57, 0, none⟩)])⟩),
  (.int .i64 (Int.ofNat 31), .agg ⟨rowV ⟨#[103, 101, 116]⟩ (.nilFunc) false (.func (.func 88) #[] #[.pointer (some ⟨d + 59, 0, none⟩)])⟩),
  (.int .i64 (Int.ofNat 32), .agg ⟨rowV ⟨#[115, 101, 116]⟩ (.nilFunc) false (.func (.func 88) #[] #[.pointer (some ⟨d + 61, 0, none⟩)])⟩),
  (.int .i64 (Int.ofNat 33), .agg ⟨rowV ⟨#[43]⟩ (.nilFunc) false (.func (.func 88) #[] #[.pointer (some ⟨d + 63, 0, none⟩)])⟩),
  (.int .i64 (Int.ofNat 34), .agg ⟨rowV ⟨#[45]⟩ (.nilFunc) false (.func (.func 88) #[] #[.pointer (some ⟨d + 65, 0, none⟩)])⟩),
  (.int .i64 (Int.ofNat 35), .agg ⟨rowV ⟨#[42]⟩ (.func (.func 58) #[] #[]) false (.func (.func 88) #[] #[.pointer (some ⟨d + 67, 0, none⟩)])⟩)]
def rowsM (d : Nat) : Mem := [.map (rowsEs d),
.cells [.slice none 0 0] 1 .live,
  .cells [.slice none 0 0] 1 .live,
  .cells [.slice none 0 0] 1 .live,
  .cells [.slice none 0 0] 1 .live,
  .cells [.slice none 0 0] 1 .live,
  .cells [.slice none 0 0] 1 .live,
  .cells [.int .i64 (Int.ofNat 2), .int .i64 (Int.ofNat 2), .int .i64 (Int.ofNat 0)] 1 .live,
  .cells [.slice (some ⟨d + 7, 0, none⟩) 3 3] 1 .live,
  .cells [.int .i64 (Int.ofNat 0), .int .i64 (Int.ofNat 0)] 1 .live,
  .cells [.slice (some ⟨d + 9, 0, none⟩) 2 2] 1 .live,
  .cells [.int .i64 (Int.ofNat 0), .int .i64 (Int.ofNat 0), .int .i64 (Int.ofNat 0)] 1 .live,
  .cells [.slice (some ⟨d + 11, 0, none⟩) 3 3] 1 .live,
  .cells [.int .i64 (Int.ofNat 0)] 1 .live,
  .cells [.slice (some ⟨d + 13, 0, none⟩) 1 1] 1 .live,
  .cells [.int .i64 (Int.ofNat 0), .int .i64 (Int.ofNat 0)] 1 .live,
  .cells [.slice (some ⟨d + 15, 0, none⟩) 2 2] 1 .live,
  .cells [.int .i64 (Int.ofNat 2), .int .i64 (Int.ofNat 2), .int .i64 (Int.ofNat 0)] 1 .live,
  .cells [.slice (some ⟨d + 17, 0, none⟩) 3 3] 1 .live,
  .cells [.string ⟨#[84, 111, 112]⟩, .string ⟨#[73, 110, 116]⟩, .string ⟨#[66, 111, 111, 108]⟩, .string ⟨#[83, 116, 114]⟩, .string ⟨#[68, 105, 99, 116]⟩, .string ⟨#[70, 117, 110]⟩, .string ⟨#[78, 117, 108, 108]⟩] 1 .live,
  .cells [.slice (some ⟨d + 19, 0, none⟩) 7 7] 1 .live,
  .cells [.slice none 0 0] 1 .live,
  .cells [.int .i64 (Int.ofNat 3)] 1 .live,
  .cells [.slice (some ⟨d + 22, 0, none⟩) 1 1] 1 .live,
  .cells [.int .i64 (Int.ofNat 2), .int .i64 (Int.ofNat 2)] 1 .live,
  .cells [.slice (some ⟨d + 24, 0, none⟩) 2 2] 1 .live,
  .cells [.int .i64 (Int.ofNat 2)] 1 .live,
  .cells [.int .i64 (Int.ofNat 2)] 1 .live,
  .cells [.int .i64 (Int.ofNat 64)] 1 .live,
  .cells [.int .i64 (Int.ofNat 2)] 1 .live,
  .cells [.int .i64 (Int.ofNat 2)] 1 .live,
  .cells [.int .i64 (Int.ofNat 64)] 1 .live,
  .cells [.slice none 0 0] 1 .live,
  .cells [.slice none 0 0] 1 .live,
  .cells [.string ⟨#[73, 110, 116]⟩, .string ⟨#[66, 111, 111, 108]⟩, .string ⟨#[83, 116, 114]⟩, .string ⟨#[68, 105, 99, 116]⟩, .string ⟨#[70, 117, 110]⟩, .string ⟨#[78, 117, 108, 108]⟩] 1 .live,
  .cells [.slice (some ⟨d + 34, 0, none⟩) 6 6] 1 .live,
  .cells [.int .i64 (Int.ofNat 4)] 1 .live,
  .cells [.slice (some ⟨d + 36, 0, none⟩) 1 1] 1 .live,
  .cells [.int .i64 (Int.ofNat 5), .int .i64 (Int.ofNat 5)] 1 .live,
  .cells [.slice (some ⟨d + 38, 0, none⟩) 2 2] 1 .live,
  .cells [.int .i64 (Int.ofNat 5), .int .i64 (Int.ofNat 5)] 1 .live,
  .cells [.slice (some ⟨d + 40, 0, none⟩) 2 2] 1 .live,
  .cells [.int .i64 (Int.ofNat 5), .int .i64 (Int.ofNat 5)] 1 .live,
  .cells [.slice (some ⟨d + 42, 0, none⟩) 2 2] 1 .live,
  .cells [.int .i64 (Int.ofNat 4), .int .i64 (Int.ofNat 4)] 1 .live,
  .cells [.slice (some ⟨d + 44, 0, none⟩) 2 2] 1 .live,
  .cells [.int .i64 (Int.ofNat 4), .int .i64 (Int.ofNat 4)] 1 .live,
  .cells [.slice (some ⟨d + 46, 0, none⟩) 2 2] 1 .live,
  .cells [.int .i64 (Int.ofNat 4), .int .i64 (Int.ofNat 2)] 1 .live,
  .cells [.slice (some ⟨d + 48, 0, none⟩) 2 2] 1 .live,
  .cells [.int .i64 (Int.ofNat 3)] 1 .live,
  .cells [.int .i64 (Int.ofNat 0)] 1 .live,
  .cells [.int .i64 (Int.ofNat 64)] 1 .live,
  .cells [.int .i64 (Int.ofNat 3)] 1 .live,
  .cells [.int .i64 (Int.ofNat 0)] 1 .live,
  .cells [.int .i64 (Int.ofNat 64)] 1 .live,
  .cells [.int .i64 (Int.ofNat 3)] 1 .live,
  .cells [.slice (some ⟨d + 56, 0, none⟩) 1 1] 1 .live,
  .cells [.int .i64 (Int.ofNat 4), .int .i64 (Int.ofNat 4)] 1 .live,
  .cells [.slice (some ⟨d + 58, 0, none⟩) 2 2] 1 .live,
  .cells [.int .i64 (Int.ofNat 4), .int .i64 (Int.ofNat 4), .int .i64 (Int.ofNat 4)] 1 .live,
  .cells [.slice (some ⟨d + 60, 0, none⟩) 3 3] 1 .live,
  .cells [.int .i64 (Int.ofNat 5), .int .i64 (Int.ofNat 5)] 1 .live,
  .cells [.slice (some ⟨d + 62, 0, none⟩) 2 2] 1 .live,
  .cells [.int .i64 (Int.ofNat 5), .int .i64 (Int.ofNat 5)] 1 .live,
  .cells [.slice (some ⟨d + 64, 0, none⟩) 2 2] 1 .live,
  .cells [.int .i64 (Int.ofNat 5)] 1 .live,
  .cells [.slice (some ⟨d + 66, 0, none⟩) 1 1] 1 .live]

def X0 : FuncId → List Value → Mem → Option (Value × Mem) := fun _ _ _ => none
theorem rows_run : runF Try.prog X0 100 (.call .normal 33 [] []) = some (.call (.ret (.map (some 0))) (rowsM 0) false) := by kernel_rfl
theorem rows_ret0 : Ret Try.prog 33 [] [] (.map (some 0)) (rowsM 0) := Ret.run hP (X := X0) (fun f args M v M' h => by simp [X0] at h) rows_run

/-! ### Elsewhere -/
def sg (d x : Nat) : Option Nat := if x < 68 then some (d + x) else none
theorem renL_nil (σ : Nat → Option Nat) : RenL σ [] [] := ⟨rfl, by simp⟩
theorem renL_cons {σ : Nat → Option Nat} {v v' : Value} {l l' : List Value} (h : RenV σ v v') (k : RenL σ l l') : RenL σ (v :: l) (v' :: l') := by
  refine ⟨by simp [k.len], fun i a b ha hb => ?_⟩
  cases i with
  | zero => simp at ha hb; subst ha; subst hb; exact h
  | succ i => simp at ha hb; exact k.at_ i a b ha hb
theorem renV_plain {σ : Nat → Option Nat} {v : Value} (h : plain1 v = true) : RenV σ v v := by
  cases v with
  | bool b => exact .bool b
  | int k n => exact .int k n
  | string s => exact .string s
  | pointer a => cases a with
    | none => exact .ptrN
    | some a => simp [plain1] at h
  | slice a n c => cases a with
    | none => simp [plain1] at h; obtain ⟨rfl, rfl⟩ := h; exact .sliN
    | some a => simp [plain1] at h
  | map r => cases r with
    | none => exact .mapN
    | some a => simp [plain1] at h
  | nilFunc => exact .nilFunc
  | nilIface => exact .nilIface
  | _ => simp [plain1] at h
theorem renL_plain {σ : Nat → Option Nat} : ∀ {l : List Value}, l.all plain1 = true → RenL σ l l
  | [], _ => renL_nil σ
  | v :: l, h => by
    simp only [List.all_cons, Bool.and_eq_true] at h
    exact renL_cons (renV_plain h.1) (renL_plain h.2)
theorem renV_agg {σ : Nat → Option Nat} {l l' : List Value} (h : RenL σ l l') : RenV σ (.agg ⟨l⟩) (.agg ⟨l'⟩) := .agg _ _ h.len (fun i v v' a b => h.at_ i v v' (by simpa using a) (by simpa using b))
theorem renV_fn {σ : Nat → Option Nat} (f : FuncId) {l l' : List Value} (h : RenL σ l l') : RenV σ (.func (.func f) #[] ⟨l⟩) (.func (.func f) #[] ⟨l'⟩) := .fn f _ _ _ _ rfl h.len (fun i v v' a b => by simp at a) (fun i v v' a b => h.at_ i v v' (by simpa using a) (by simpa using b))
theorem renP {d x : Nat} (h : x < 68 := by decide) : RenV (sg d) (.pointer (some ⟨0 + x, 0, none⟩)) (.pointer (some ⟨d + x, 0, none⟩)) := .ptr (by rw [Nat.zero_add]; simp [sg, h])
theorem renS {d x n c : Nat} (h : x < 68 := by decide) : RenV (sg d) (.slice (some ⟨0 + x, 0, none⟩) n c) (.slice (some ⟨d + x, 0, none⟩) n c) := .sli (by rw [Nat.zero_add]; simp [sg, h])
def RenEs (σ : Nat → Option Nat) : List (Value × Value) → List (Value × Value) → Prop
  | [], [] => True
  | e :: l, e' :: l' => (e'.1 = e.1 ∧ RenV σ e.2 e'.2) ∧ RenEs σ l l'
  | _, _ => False
theorem renEs_at {σ : Nat → Option Nat} : ∀ {l l' : List (Value × Value)}, RenEs σ l l' → l.length = l'.length ∧ ∀ (i : Nat) (e e1 : Value × Value), l[i]? = some e → l'[i]? = some e1 → e1.1 = e.1 ∧ RenV σ e.2 e1.2
  | [], [], _ => ⟨rfl, by simp⟩
  | e :: l, e' :: l', h => by
    obtain ⟨h1, h2⟩ := renEs_at h.2
    refine ⟨by simp [h1], fun i a b ha hb => ?_⟩
    cases i with
    | zero => simp at ha hb; subst ha; subst hb; exact h.1
    | succ i => simp at ha hb; exact h2 i a b ha hb
  | [], _ :: _, h => h.elim
  | _ :: _, [], h => h.elim
def RenM (σ : Nat → Option Nat) : Mem → Mem → Prop
  | [], [] => True
  | e :: l, e' :: l' => RenO σ e e' ∧ RenM σ l l'
  | _, _ => False
theorem renM_at {σ : Nat → Option Nat} : ∀ {l l' : Mem}, RenM σ l l' → ∀ (i : Nat), i < l.length → ∃ o o1, l[i]? = some o ∧ l'[i]? = some o1 ∧ RenO σ o o1
  | [], [], _, i, hi => by simp at hi
  | e :: l, e' :: l', h, i, hi => by
    cases i with
    | zero => exact ⟨e, e', rfl, rfl, h.1⟩
    | succ i => exact renM_at h.2 i (by simpa using hi)
  | [], _ :: _, h, _, _ => h.elim
  | _ :: _, [], h, _, _ => h.elim
theorem rowsEs_ren (d : Nat) : RenEs (sg d) (rowsEs 0) (rowsEs d) := ⟨⟨rfl, renV_agg (renL_cons (renV_plain rfl) (renL_cons (renV_fn _ (renL_nil _)) (renL_cons (renV_plain rfl) (renL_cons (renV_fn _ (renL_cons renP (renL_nil _))) (renL_nil _)))))⟩, 
  ⟨⟨rfl, renV_agg (renL_cons (renV_plain rfl) (renL_cons (renV_fn _ (renL_nil _)) (renL_cons (renV_plain rfl) (renL_cons (renV_fn _ (renL_cons renP (renL_nil _))) (renL_nil _)))))⟩, 
  ⟨⟨rfl, renV_agg (renL_cons (renV_plain rfl) (renL_cons (renV_plain rfl) (renL_cons (renV_plain rfl) (renL_cons (renV_fn _ (renL_cons renP (renL_nil _))) (renL_nil _)))))⟩, 
  ⟨⟨rfl, renV_agg (renL_cons (renV_plain rfl) (renL_cons (renV_plain rfl) (renL_cons (renV_plain rfl) (renL_cons (renV_fn _ (renL_cons renP (renL_nil _))) (renL_nil _)))))⟩, 
  ⟨⟨rfl, renV_agg (renL_cons (renV_plain rfl) (renL_cons (renV_plain rfl) (renL_cons (renV_plain rfl) (renL_cons (renV_fn _ (renL_cons renP (renL_nil _))) (renL_nil _)))))⟩, 
  ⟨⟨rfl, renV_agg (renL_cons (renV_plain rfl) (renL_cons (renV_fn _ (renL_nil _)) (renL_cons (renV_plain rfl) (renL_cons (renV_fn _ (renL_cons renP (renL_nil _))) (renL_nil _)))))⟩, 
  ⟨⟨rfl, renV_agg (renL_cons (renV_plain rfl) (renL_cons (renV_plain rfl) (renL_cons (renV_plain rfl) (renL_cons (renV_fn _ (renL_cons renP (renL_nil _))) (renL_nil _)))))⟩, 
  ⟨⟨rfl, renV_agg (renL_cons (renV_plain rfl) (renL_cons (renV_plain rfl) (renL_cons (renV_plain rfl) (renL_cons (renV_fn _ (renL_cons renP (renL_nil _))) (renL_nil _)))))⟩, 
  ⟨⟨rfl, renV_agg (renL_cons (renV_plain rfl) (renL_cons (renV_plain rfl) (renL_cons (renV_plain rfl) (renL_cons (renV_fn _ (renL_cons renP (renL_nil _))) (renL_nil _)))))⟩, 
  ⟨⟨rfl, renV_agg (renL_cons (renV_plain rfl) (renL_cons (renV_plain rfl) (renL_cons (renV_plain rfl) (renL_cons (renV_fn _ (renL_cons renP (renL_nil _))) (renL_nil _)))))⟩, 
  ⟨⟨rfl, renV_agg (renL_cons (renV_plain rfl) (renL_cons (renV_plain rfl) (renL_cons (renV_plain rfl) (renL_cons (renV_fn _ (renL_cons renP (renL_nil _))) (renL_nil _)))))⟩, 
  ⟨⟨rfl, renV_agg (renL_cons (renV_plain rfl) (renL_cons (renV_plain rfl) (renL_cons (renV_plain rfl) (renL_cons (renV_fn _ (renL_nil _)) (renL_nil _)))))⟩, 
  ⟨⟨rfl, renV_agg (renL_cons (renV_plain rfl) (renL_cons (renV_fn _ (renL_nil _)) (renL_cons (renV_plain rfl) (renL_cons (renV_fn _ (renL_nil _)) (renL_nil _)))))⟩, 
  ⟨⟨rfl, renV_agg (renL_cons (renV_plain rfl) (renL_cons (renV_fn _ (renL_nil _)) (renL_cons (renV_plain rfl) (renL_cons (renV_fn _ (renL_cons renP (renL_nil _))) (renL_nil _)))))⟩, 
  ⟨⟨rfl, renV_agg (renL_cons (renV_plain rfl) (renL_cons (renV_fn _ (renL_cons renP (renL_nil _))) (renL_cons (renV_plain rfl) (renL_cons (renV_fn _ (renL_cons renP (renL_nil _))) (renL_nil _)))))⟩, 
  ⟨⟨rfl, renV_agg (renL_cons (renV_plain rfl) (renL_cons (renV_plain rfl) (renL_cons (renV_plain rfl) (renL_cons (renV_fn _ (renL_cons renP (renL_nil _))) (renL_nil _)))))⟩, 
  ⟨⟨rfl, renV_agg (renL_cons (renV_plain rfl) (renL_cons (renV_plain rfl) (renL_cons (renV_plain rfl) (renL_cons (renV_fn _ (renL_cons renP (renL_nil _))) (renL_nil _)))))⟩, 
  ⟨⟨rfl, renV_agg (renL_cons (renV_plain rfl) (renL_cons (renV_plain rfl) (renL_cons (renV_plain rfl) (renL_cons (renV_fn _ (renL_cons renP (renL_cons renP (renL_cons renP (renL_nil _))))) (renL_nil _)))))⟩, 
  ⟨⟨rfl, renV_agg (renL_cons (renV_plain rfl) (renL_cons (renV_plain rfl) (renL_cons (renV_plain rfl) (renL_cons (renV_fn _ (renL_cons renP (renL_cons renP (renL_cons renP (renL_nil _))))) (renL_nil _)))))⟩, 
  ⟨⟨rfl, renV_agg (renL_cons (renV_plain rfl) (renL_cons (renV_plain rfl) (renL_cons (renV_plain rfl) (renL_cons (renV_fn _ (renL_cons renP (renL_nil _))) (renL_nil _)))))⟩, 
  ⟨⟨rfl, renV_agg (renL_cons (renV_plain rfl) (renL_cons (renV_plain rfl) (renL_cons (renV_plain rfl) (renL_cons (renV_fn _ (renL_cons renP (renL_nil _))) (renL_nil _)))))⟩, 
  ⟨⟨rfl, renV_agg (renL_cons (renV_plain rfl) (renL_cons (renV_fn _ (renL_cons renP (renL_nil _))) (renL_cons (renV_plain rfl) (renL_cons (renV_fn _ (renL_cons renP (renL_nil _))) (renL_nil _)))))⟩, 
  ⟨⟨rfl, renV_agg (renL_cons (renV_plain rfl) (renL_cons (renV_plain rfl) (renL_cons (renV_plain rfl) (renL_cons (renV_fn _ (renL_cons renP (renL_nil _))) (renL_nil _)))))⟩, 
  ⟨⟨rfl, renV_agg (renL_cons (renV_plain rfl) (renL_cons (renV_plain rfl) (renL_cons (renV_plain rfl) (renL_cons (renV_fn _ (renL_cons renP (renL_nil _))) (renL_nil _)))))⟩, 
  ⟨⟨rfl, renV_agg (renL_cons (renV_plain rfl) (renL_cons (renV_plain rfl) (renL_cons (renV_plain rfl) (renL_cons (renV_fn _ (renL_cons renP (renL_nil _))) (renL_nil _)))))⟩, 
  ⟨⟨rfl, renV_agg (renL_cons (renV_plain rfl) (renL_cons (renV_plain rfl) (renL_cons (renV_plain rfl) (renL_cons (renV_fn _ (renL_cons renP (renL_nil _))) (renL_nil _)))))⟩, 
  ⟨⟨rfl, renV_agg (renL_cons (renV_plain rfl) (renL_cons (renV_plain rfl) (renL_cons (renV_plain rfl) (renL_cons (renV_fn _ (renL_cons renP (renL_nil _))) (renL_nil _)))))⟩, 
  ⟨⟨rfl, renV_agg (renL_cons (renV_plain rfl) (renL_cons (renV_plain rfl) (renL_cons (renV_plain rfl) (renL_cons (renV_fn _ (renL_cons renP (renL_nil _))) (renL_nil _)))))⟩, 
  ⟨⟨rfl, renV_agg (renL_cons (renV_plain rfl) (renL_cons (renV_plain rfl) (renL_cons (renV_plain rfl) (renL_cons (renV_fn _ (renL_cons renP (renL_cons renP (renL_cons renP (renL_nil _))))) (renL_nil _)))))⟩, 
  ⟨⟨rfl, renV_agg (renL_cons (renV_plain rfl) (renL_cons (renV_plain rfl) (renL_cons (renV_plain rfl) (renL_cons (renV_fn _ (renL_cons renP (renL_cons renP (renL_cons renP (renL_nil _))))) (renL_nil _)))))⟩, 
  ⟨⟨rfl, renV_agg (renL_cons (renV_plain rfl) (renL_cons (renV_plain rfl) (renL_cons (renV_plain rfl) (renL_cons (renV_fn _ (renL_cons renP (renL_nil _))) (renL_nil _)))))⟩, 
  ⟨⟨rfl, renV_agg (renL_cons (renV_plain rfl) (renL_cons (renV_plain rfl) (renL_cons (renV_plain rfl) (renL_cons (renV_fn _ (renL_cons renP (renL_nil _))) (renL_nil _)))))⟩, 
  ⟨⟨rfl, renV_agg (renL_cons (renV_plain rfl) (renL_cons (renV_plain rfl) (renL_cons (renV_plain rfl) (renL_cons (renV_fn _ (renL_cons renP (renL_nil _))) (renL_nil _)))))⟩, 
  ⟨⟨rfl, renV_agg (renL_cons (renV_plain rfl) (renL_cons (renV_plain rfl) (renL_cons (renV_plain rfl) (renL_cons (renV_fn _ (renL_cons renP (renL_nil _))) (renL_nil _)))))⟩, 
  ⟨⟨rfl, renV_agg (renL_cons (renV_plain rfl) (renL_cons (renV_plain rfl) (renL_cons (renV_plain rfl) (renL_cons (renV_fn _ (renL_cons renP (renL_nil _))) (renL_nil _)))))⟩, 
  ⟨⟨rfl, renV_agg (renL_cons (renV_plain rfl) (renL_cons (renV_fn _ (renL_nil _)) (renL_cons (renV_plain rfl) (renL_cons (renV_fn _ (renL_cons renP (renL_nil _))) (renL_nil _)))))⟩, trivial⟩⟩⟩⟩⟩⟩⟩⟩⟩⟩⟩⟩⟩⟩⟩⟩⟩⟩⟩⟩⟩⟩⟩⟩⟩⟩⟩⟩⟩⟩⟩⟩⟩⟩⟩⟩
theorem rowsM_ren (d : Nat) : RenM (sg d) (rowsM 0) (rowsM d) := ⟨renEs_at (rowsEs_ren d), ⟨⟨rfl, rfl, renL_plain rfl⟩, 
  ⟨⟨rfl, rfl, renL_plain rfl⟩, 
  ⟨⟨rfl, rfl, renL_plain rfl⟩, 
  ⟨⟨rfl, rfl, renL_plain rfl⟩, 
  ⟨⟨rfl, rfl, renL_plain rfl⟩, 
  ⟨⟨rfl, rfl, renL_plain rfl⟩, 
  ⟨⟨rfl, rfl, renL_plain rfl⟩, 
  ⟨⟨rfl, rfl, renL_cons renS (renL_nil _)⟩, 
  ⟨⟨rfl, rfl, renL_plain rfl⟩, 
  ⟨⟨rfl, rfl, renL_cons renS (renL_nil _)⟩, 
  ⟨⟨rfl, rfl, renL_plain rfl⟩, 
  ⟨⟨rfl, rfl, renL_cons renS (renL_nil _)⟩, 
  ⟨⟨rfl, rfl, renL_plain rfl⟩, 
  ⟨⟨rfl, rfl, renL_cons renS (renL_nil _)⟩, 
  ⟨⟨rfl, rfl, renL_plain rfl⟩, 
  ⟨⟨rfl, rfl, renL_cons renS (renL_nil _)⟩, 
  ⟨⟨rfl, rfl, renL_plain rfl⟩, 
  ⟨⟨rfl, rfl, renL_cons renS (renL_nil _)⟩, 
  ⟨⟨rfl, rfl, renL_plain rfl⟩, 
  ⟨⟨rfl, rfl, renL_cons renS (renL_nil _)⟩, 
  ⟨⟨rfl, rfl, renL_plain rfl⟩, 
  ⟨⟨rfl, rfl, renL_plain rfl⟩, 
  ⟨⟨rfl, rfl, renL_cons renS (renL_nil _)⟩, 
  ⟨⟨rfl, rfl, renL_plain rfl⟩, 
  ⟨⟨rfl, rfl, renL_cons renS (renL_nil _)⟩, 
  ⟨⟨rfl, rfl, renL_plain rfl⟩, 
  ⟨⟨rfl, rfl, renL_plain rfl⟩, 
  ⟨⟨rfl, rfl, renL_plain rfl⟩, 
  ⟨⟨rfl, rfl, renL_plain rfl⟩, 
  ⟨⟨rfl, rfl, renL_plain rfl⟩, 
  ⟨⟨rfl, rfl, renL_plain rfl⟩, 
  ⟨⟨rfl, rfl, renL_plain rfl⟩, 
  ⟨⟨rfl, rfl, renL_plain rfl⟩, 
  ⟨⟨rfl, rfl, renL_plain rfl⟩, 
  ⟨⟨rfl, rfl, renL_cons renS (renL_nil _)⟩, 
  ⟨⟨rfl, rfl, renL_plain rfl⟩, 
  ⟨⟨rfl, rfl, renL_cons renS (renL_nil _)⟩, 
  ⟨⟨rfl, rfl, renL_plain rfl⟩, 
  ⟨⟨rfl, rfl, renL_cons renS (renL_nil _)⟩, 
  ⟨⟨rfl, rfl, renL_plain rfl⟩, 
  ⟨⟨rfl, rfl, renL_cons renS (renL_nil _)⟩, 
  ⟨⟨rfl, rfl, renL_plain rfl⟩, 
  ⟨⟨rfl, rfl, renL_cons renS (renL_nil _)⟩, 
  ⟨⟨rfl, rfl, renL_plain rfl⟩, 
  ⟨⟨rfl, rfl, renL_cons renS (renL_nil _)⟩, 
  ⟨⟨rfl, rfl, renL_plain rfl⟩, 
  ⟨⟨rfl, rfl, renL_cons renS (renL_nil _)⟩, 
  ⟨⟨rfl, rfl, renL_plain rfl⟩, 
  ⟨⟨rfl, rfl, renL_cons renS (renL_nil _)⟩, 
  ⟨⟨rfl, rfl, renL_plain rfl⟩, 
  ⟨⟨rfl, rfl, renL_plain rfl⟩, 
  ⟨⟨rfl, rfl, renL_plain rfl⟩, 
  ⟨⟨rfl, rfl, renL_plain rfl⟩, 
  ⟨⟨rfl, rfl, renL_plain rfl⟩, 
  ⟨⟨rfl, rfl, renL_plain rfl⟩, 
  ⟨⟨rfl, rfl, renL_plain rfl⟩, 
  ⟨⟨rfl, rfl, renL_cons renS (renL_nil _)⟩, 
  ⟨⟨rfl, rfl, renL_plain rfl⟩, 
  ⟨⟨rfl, rfl, renL_cons renS (renL_nil _)⟩, 
  ⟨⟨rfl, rfl, renL_plain rfl⟩, 
  ⟨⟨rfl, rfl, renL_cons renS (renL_nil _)⟩, 
  ⟨⟨rfl, rfl, renL_plain rfl⟩, 
  ⟨⟨rfl, rfl, renL_cons renS (renL_nil _)⟩, 
  ⟨⟨rfl, rfl, renL_plain rfl⟩, 
  ⟨⟨rfl, rfl, renL_cons renS (renL_nil _)⟩, 
  ⟨⟨rfl, rfl, renL_plain rfl⟩, 
  ⟨⟨rfl, rfl, renL_cons renS (renL_nil _)⟩, trivial⟩⟩⟩⟩⟩⟩⟩⟩⟩⟩⟩⟩⟩⟩⟩⟩⟩⟩⟩⟩⟩⟩⟩⟩⟩⟩⟩⟩⟩⟩⟩⟩⟩⟩⟩⟩⟩⟩⟩⟩⟩⟩⟩⟩⟩⟩⟩⟩⟩⟩⟩⟩⟩⟩⟩⟩⟩⟩⟩⟩⟩⟩⟩⟩⟩⟩⟩⟩

theorem rows_ret (M : Mem) : Ret Try.prog 33 [] M (.map (some M.length)) (M ++ rowsM M.length) := by
  refine SCall.lift (σ := fun _ => none) (σ' := sg M.length) rows_ret0 ⟨by simp, by simp, by simp, by simp, by simp, ?_, ?_, ?_, ?_, ?_⟩ (renL_nil _) (.map (x := 0) (by simp [sg]))
  · intro x _ hx
    have : x < 68 := hx
    simp [sg, this]
  · intro x hx
    have : 68 ≤ x := hx
    simp [sg]; omega
  · rw [List.length_append]; rfl
  · intro x y h
    have hx : x < 68 ∧ M.length + x = y := by simpa [sg] using h
    obtain ⟨o, o1, h1, h2, h3⟩ := renM_at (rowsM_ren M.length) x hx.1
    refine ⟨o, o1, h1, ?_, h3⟩
    rw [← hx.2, List.getElem?_append_right (by omega), Nat.add_sub_cancel_left]
    exact h2
  · intro y hy _
    exact List.getElem?_append_left hy

/-! ### A row is looked up -/
theorem lookup_es {M : Mem} {x j : Nat} {es : List (Value × Value)} {k : Int} {v : Value} (h : M[x]? = some (.map es)) (hf : findA (.int .i64) (.int .i64 k) es 0 = some (some (j, v))) (ok : Bool) :
    lookupA Try.prog M 62 (.map (some x)) (.int .i64 k) ok = some (if ok then .tuple #[v, .bool true] else v) := by
  have h1 : mapT Try.prog 62 = some (3, 60) := by kernel_rfl
  have h2 : Try.prog.underlying 3 = some (.int .i64) := by kernel_rfl
  simp only [lookupA, h1, h2, Option.bind_some, mapEs, h, hf]
  rw [if_neg (by rintro (h | h) <;> simp [keyK, plain1] at h)]
theorem lookup_no {M : Mem} {x : Nat} {es : List (Value × Value)} {k : Int} (h : M[x]? = some (.map es)) (hf : findA (.int .i64) (.int .i64 k) es 0 = some none) (ok : Bool) :
    lookupA Try.prog M 62 (.map (some x)) (.int .i64 k) ok = some (if ok then .tuple #[.agg ⟨rowV ⟨#[]⟩ .nilFunc false .nilFunc⟩, .bool false] else .agg ⟨rowV ⟨#[]⟩ .nilFunc false .nilFunc⟩) := by
  have h1 : mapT Try.prog 62 = some (3, 60) := by kernel_rfl
  have h2 : Try.prog.underlying 3 = some (.int .i64) := by kernel_rfl
  have h3 : zeroVT Try.prog 60 = some (.agg ⟨rowV ⟨#[]⟩ .nilFunc false .nilFunc⟩) := by kernel_rfl
  simp only [lookupA, h1, h2, h3, Option.bind_some, mapEs, h, hf]
  rw [if_neg (by rintro (h | h) <;> simp [keyK, plain1] at h)]
  rfl
theorem find_no {k : Int} : ∀ {es : List (Value × Value)} {j : Nat}, (∀ e ∈ es, ∃ b, e.1 = .int .i64 b ∧ k ≠ b) → findA (.int .i64) (.int .i64 k) es j = some none
  | [], j, _ => rfl
  | e :: es, j, h => by
    obtain ⟨b, hb, hne⟩ := h e (by simp)
    have hs : Instr.sameNow (.int .i64) (.int .i64 k) e.1 = some false := by
      rw [hb]
      show some (decide _) = some false
      simp [hne]
    simp only [findA, hs]
    exact find_no fun e he => h e (by simp [he])


end Go.Proofs.YtabkcbaknjenmaaAM

/-
  THE NODE LAWS: what the program says of a node's kids, and of a kind's word.
-/
set_option linter.unusedVariables false
set_option linter.unusedSimpArgs false
namespace Go.Proofs.YtabkcbaknjenmaaAM
open Go Go.Proofs
set_option maxRecDepth 100000
set_option maxHeartbeats 4000000

theorem rows_get (M : Mem) (j : Nat) {o : AObj} (h : (rowsM M.length)[j]? = some o) : (M ++ rowsM M.length)[M.length + j]? = some o := by
  rw [List.getElem?_append_right (by omega), Nat.add_sub_cancel_left]; exact h
theorem rows_at (M : Mem) (j : Nat) {vs : List Value} (h : (rowsM M.length)[j]? = some (.cells vs 1 .live)) : At (M ++ rowsM M.length) (M.length + j) vs := ⟨1, .live, by decide, rows_get M j h⟩
/-- The words of kinds. -/
def wordsL : List ByteArray := [⟨#[]⟩, ⟨#[]⟩, ⟨#[116, 114, 117, 101]⟩, ⟨#[102, 97, 108, 115, 101]⟩, ⟨#[110, 117, 108, 108]⟩, ⟨#[]⟩, ⟨#[102, 110]⟩, ⟨#[108, 101, 116]⟩, ⟨#[105, 102]⟩, ⟨#[97, 115, 115, 101, 114, 116]⟩, ⟨#[100, 105, 99, 116]⟩, ⟨#[99, 97, 108, 108]⟩, ⟨#[]⟩, ⟨#[100, 101, 102]⟩, ⟨#[]⟩, ⟨#[119, 104, 101, 114, 101]⟩, ⟨#[45, 62]⟩, ⟨#[111, 114]⟩, ⟨#[97, 110, 100]⟩, ⟨#[116, 114, 117, 101]⟩, ⟨#[102, 97, 108, 115, 101]⟩, ⟨#[]⟩, ⟨#[60, 61]⟩, ⟨#[60]⟩, ⟨#[61, 61]⟩, ⟨#[61]⟩, ⟨#[104, 97, 115]⟩, ⟨#[97, 110, 100]⟩, ⟨#[111, 114]⟩, ⟨#[110, 111, 116]⟩, ⟨#[105, 115]⟩, ⟨#[103, 101, 116]⟩, ⟨#[115, 101, 116]⟩, ⟨#[43]⟩, ⟨#[45]⟩, ⟨#[42]⟩]
def RowAt (M : Mem) (k : Nat) : Prop := ∃ j fv fk f g b, findA (.int .i64) (.int .i64 (Int.ofNat k)) (rowsEs M.length) 0 = some (some (j, .agg ⟨rowV (wordsL.getD k noText) fv b fk⟩)) ∧ NameFn (M ++ rowsM M.length) fv f ∧ KidsFn (M ++ rowsM M.length) fk g ∧
  ∀ nm ar n, cond ((g nm n).2 && (f nm && argOk b ar)) (some (g nm n).1) none = kidsS (Int.ofNat k) nm ar n
theorem alg1 (x y z : Bool) (l : Option (List Int)) : cond (x && (y && z)) l none = cond ((y && z) && (true && x)) l none := by cases x <;> cases y <;> cases z <;> rfl
theorem alg2 (x z : Bool) (l : Option (List Int)) : cond (x && (true && z)) l none = cond (z && (true && x)) l none := by cases x <;> cases z <;> rfl
theorem beq_self_nat (n : Nat) : Nat.beq n n = true := Nat.beq_refl n
theorem leF_nat (a b : Nat) : leF (Int.ofNat a) (Int.ofNat b) = Nat.ble a b := rfl

theorem rowAt0 (M : Mem) : RowAt M 0 := by
  refine ⟨0, _, _, isNumber, (fun _ n => ([], Nat.beq (List.length (α := Int) []) n)), false, by kernel_rfl, nameFn_num _, these_ret (l := []) (rows_at M 1 rfl) (.inl rfl), fun nm ar n => ?_⟩
  have e : kidsS (Int.ofNat 0) nm ar n = cond (((isNumber nm) && (eqS ar noText)) && (true && Nat.beq (List.length (α := Int) []) n)) (some []) none := by kernel_rfl
  rw [e]
  dsimp only [argOk, cond]
  exact alg1 _ _ _ _
theorem rowAt1 (M : Mem) : RowAt M 1 := by
  refine ⟨1, _, _, (fun _ => true), (fun _ n => ([], Nat.beq (List.length (α := Int) []) n)), false, by kernel_rfl, nameFn_any _, these_ret (l := []) (rows_at M 2 rfl) (.inl rfl), fun nm ar n => ?_⟩
  have e : kidsS (Int.ofNat 1) nm ar n = cond (((eqS ar noText)) && (true && Nat.beq (List.length (α := Int) []) n)) (some []) none := by kernel_rfl
  rw [e]
  dsimp only [argOk, cond]
  exact alg2 _ _ _
theorem rowAt2 (M : Mem) : RowAt M 2 := by
  refine ⟨2, _, _, (fun s => eqS s noText), (fun _ n => ([], Nat.beq (List.length (α := Int) []) n)), false, by kernel_rfl, nameFn_none _, these_ret (l := []) (rows_at M 3 rfl) (.inl rfl), fun nm ar n => ?_⟩
  have e : kidsS (Int.ofNat 2) nm ar n = cond (((eqS nm noText) && (eqS ar noText)) && (true && Nat.beq (List.length (α := Int) []) n)) (some []) none := by kernel_rfl
  rw [e]
  dsimp only [argOk, cond]
  exact alg1 _ _ _ _
theorem rowAt3 (M : Mem) : RowAt M 3 := by
  refine ⟨3, _, _, (fun s => eqS s noText), (fun _ n => ([], Nat.beq (List.length (α := Int) []) n)), false, by kernel_rfl, nameFn_none _, these_ret (l := []) (rows_at M 4 rfl) (.inl rfl), fun nm ar n => ?_⟩
  have e : kidsS (Int.ofNat 3) nm ar n = cond (((eqS nm noText) && (eqS ar noText)) && (true && Nat.beq (List.length (α := Int) []) n)) (some []) none := by kernel_rfl
  rw [e]
  dsimp only [argOk, cond]
  exact alg1 _ _ _ _
theorem rowAt4 (M : Mem) : RowAt M 4 := by
  refine ⟨4, _, _, (fun s => eqS s noText), (fun _ n => ([], Nat.beq (List.length (α := Int) []) n)), false, by kernel_rfl, nameFn_none _, these_ret (l := []) (rows_at M 5 rfl) (.inl rfl), fun nm ar n => ?_⟩
  have e : kidsS (Int.ofNat 4) nm ar n = cond (((eqS nm noText) && (eqS ar noText)) && (true && Nat.beq (List.length (α := Int) []) n)) (some []) none := by kernel_rfl
  rw [e]
  dsimp only [argOk, cond]
  exact alg1 _ _ _ _
theorem rowAt5 (M : Mem) : RowAt M 5 := by
  refine ⟨5, _, _, bindable, (fun _ n => ([], Nat.beq (List.length (α := Int) []) n)), false, by kernel_rfl, nameFn_name _, these_ret (l := []) (rows_at M 6 rfl) (.inl rfl), fun nm ar n => ?_⟩
  have e : kidsS (Int.ofNat 5) nm ar n = cond (((bindable nm) && (eqS ar noText)) && (true && Nat.beq (List.length (α := Int) []) n)) (some []) none := by kernel_rfl
  rw [e]
  dsimp only [argOk, cond]
  exact alg1 _ _ _ _
theorem rowAt6 (M : Mem) : RowAt M 6 := by
  refine ⟨6, _, _, (fun s => eqS s noText), (fun _ n => ([2, 2, 0], Nat.beq (List.length (α := Int) [2, 2, 0]) n)), true, by kernel_rfl, nameFn_none _, these_ret (l := [2, 2, 0]) (rows_at M 8 rfl) (rows_at M 7 rfl).row, fun nm ar n => ?_⟩
  have e : kidsS (Int.ofNat 6) nm ar n = cond (((eqS nm noText) && (bindable ar)) && (true && Nat.beq (List.length (α := Int) [2, 2, 0]) n)) (some [2, 2, 0]) none := by kernel_rfl
  rw [e]
  dsimp only [argOk, cond]
  exact alg1 _ _ _ _
theorem rowAt7 (M : Mem) : RowAt M 7 := by
  refine ⟨7, _, _, (fun s => eqS s noText), (fun _ n => ([0, 0], Nat.beq (List.length (α := Int) [0, 0]) n)), true, by kernel_rfl, nameFn_none _, these_ret (l := [0, 0]) (rows_at M 10 rfl) (rows_at M 9 rfl).row, fun nm ar n => ?_⟩
  have e : kidsS (Int.ofNat 7) nm ar n = cond (((eqS nm noText) && (bindable ar)) && (true && Nat.beq (List.length (α := Int) [0, 0]) n)) (some [0, 0]) none := by kernel_rfl
  rw [e]
  dsimp only [argOk, cond]
  exact alg1 _ _ _ _
theorem rowAt8 (M : Mem) : RowAt M 8 := by
  refine ⟨8, _, _, (fun s => eqS s noText), (fun _ n => ([0, 0, 0], Nat.beq (List.length (α := Int) [0, 0, 0]) n)), false, by kernel_rfl, nameFn_none _, these_ret (l := [0, 0, 0]) (rows_at M 12 rfl) (rows_at M 11 rfl).row, fun nm ar n => ?_⟩
  have e : kidsS (Int.ofNat 8) nm ar n = cond (((eqS nm noText) && (eqS ar noText)) && (true && Nat.beq (List.length (α := Int) [0, 0, 0]) n)) (some [0, 0, 0]) none := by kernel_rfl
  rw [e]
  dsimp only [argOk, cond]
  exact alg1 _ _ _ _
theorem rowAt9 (M : Mem) : RowAt M 9 := by
  refine ⟨9, _, _, (fun s => eqS s noText), (fun _ n => ([0], Nat.beq (List.length (α := Int) [0]) n)), false, by kernel_rfl, nameFn_none _, these_ret (l := [0]) (rows_at M 14 rfl) (rows_at M 13 rfl).row, fun nm ar n => ?_⟩
  have e : kidsS (Int.ofNat 9) nm ar n = cond (((eqS nm noText) && (eqS ar noText)) && (true && Nat.beq (List.length (α := Int) [0]) n)) (some [0]) none := by kernel_rfl
  rw [e]
  dsimp only [argOk, cond]
  exact alg1 _ _ _ _
theorem rowAt11 (M : Mem) : RowAt M 11 := by
  refine ⟨10, _, _, (fun s => eqS s noText), (fun _ n => ([0, 0], Nat.beq (List.length (α := Int) [0, 0]) n)), false, by kernel_rfl, nameFn_none _, these_ret (l := [0, 0]) (rows_at M 16 rfl) (rows_at M 15 rfl).row, fun nm ar n => ?_⟩
  have e : kidsS (Int.ofNat 11) nm ar n = cond (((eqS nm noText) && (eqS ar noText)) && (true && Nat.beq (List.length (α := Int) [0, 0]) n)) (some [0, 0]) none := by kernel_rfl
  rw [e]
  dsimp only [argOk, cond]
  exact alg1 _ _ _ _
theorem rowAt10 (M : Mem) : RowAt M 10 := by
  refine ⟨11, _, _, (fun s => eqS s noText), (fun _ n => (List.replicate n 0, (leF (Int.ofNat 0) (Int.ofNat n) && leF (Int.ofNat n) (Int.ofNat 128)) && Nat.beq (n % 2) 0)), false, by kernel_rfl, nameFn_none _, pairs_ret _, fun nm ar n => ?_⟩
  have e : kidsS (Int.ofNat 10) nm ar n = cond (((eqS nm noText) && (eqS ar noText)) && ((Nat.beq (n % 2) 0 && leF (Int.ofNat n) (Int.ofNat 128)) && Nat.beq (List.replicate n (0 : Int)).length n)) (some (List.replicate n 0)) none := by kernel_rfl
  rw [e]
  dsimp only [argOk, cond]
  rw [List.length_replicate, beq_self_nat, show leF (Int.ofNat 0) (Int.ofNat n) = true from leF_t.2 (Int.natCast_nonneg n)]
  cases leF (Int.ofNat n) (Int.ofNat 128) <;> cases Nat.beq (n % 2) 0 <;> cases eqS nm noText <;> cases eqS ar noText <;> rfl
theorem rowAt12 (M : Mem) : RowAt M 12 := by
  refine ⟨12, _, _, (has opsL), (fun nm n => (List.replicate n 0, leF (Int.ofNat (arityS nm)) (Int.ofNat n) && leF (Int.ofNat n) (Int.ofNat (arityS nm)))), false, by kernel_rfl, nameFn_op _, operands_ret _, fun nm ar n => ?_⟩
  have e : kidsS (Int.ofNat 12) nm ar n = cond (((has opsL nm) && (eqS ar noText)) && (true && Nat.beq (List.replicate (arityS nm) (0 : Int)).length n)) (some (List.replicate (arityS nm) 0)) none := by kernel_rfl
  rw [e]
  dsimp only [argOk, cond]
  rw [List.length_replicate]
  by_cases hn : arityS nm = n
  · subst hn
    rw [beq_self_nat, show leF (Int.ofNat (arityS nm)) (Int.ofNat (arityS nm)) = true from leF_t.2 (Int.le_refl _)]
    cases has opsL nm <;> cases eqS ar noText <;> rfl
  · have h1 : Nat.beq (arityS nm) n = false := by
      rw [← Bool.not_eq_true]; exact fun h => hn (Nat.eq_of_beq_eq_true h)
    have h2 : (leF (Int.ofNat (arityS nm)) (Int.ofNat n) && leF (Int.ofNat n) (Int.ofNat (arityS nm))) = false := by
      rw [← Bool.not_eq_true, Bool.and_eq_true, leF_t, leF_t]
      rintro ⟨h1, h2⟩
      have := Int.ofNat_le.1 h1; have := Int.ofNat_le.1 h2
      omega
    rw [h1, h2]
    cases has opsL nm <;> cases eqS ar noText <;> rfl
theorem rowAt13 (M : Mem) : RowAt M 13 := by
  refine ⟨13, _, _, bindable, (fun _ n => ([2, 2, 0], Nat.beq (List.length (α := Int) [2, 2, 0]) n)), true, by kernel_rfl, nameFn_name _, these_ret (l := [2, 2, 0]) (rows_at M 18 rfl) (rows_at M 17 rfl).row, fun nm ar n => ?_⟩
  have e : kidsS (Int.ofNat 13) nm ar n = cond (((bindable nm) && (bindable ar)) && (true && Nat.beq (List.length (α := Int) [2, 2, 0]) n)) (some [2, 2, 0]) none := by kernel_rfl
  rw [e]
  dsimp only [argOk, cond]
  exact alg1 _ _ _ _
theorem rowAt14 (M : Mem) : RowAt M 14 := by
  refine ⟨14, _, _, (has (tagsL)), (fun _ n => ([], Nat.beq (List.length (α := Int) []) n)), false, by kernel_rfl, nameFn_one (l := tagsL) (rows_at M 20 rfl) (rows_at M 19 rfl).row (by decide), these_ret (l := []) (rows_at M 21 rfl) (.inl rfl), fun nm ar n => ?_⟩
  have e : kidsS (Int.ofNat 14) nm ar n = cond (((has (tagsL) nm) && (eqS ar noText)) && (true && Nat.beq (List.length (α := Int) []) n)) (some []) none := by kernel_rfl
  rw [e]
  dsimp only [argOk, cond]
  exact alg1 _ _ _ _
theorem rowAt15 (M : Mem) : RowAt M 15 := by
  refine ⟨15, _, _, (fun s => eqS s noText), (fun _ n => ([3], Nat.beq (List.length (α := Int) [3]) n)), true, by kernel_rfl, nameFn_none _, these_ret (l := [3]) (rows_at M 23 rfl) (rows_at M 22 rfl).row, fun nm ar n => ?_⟩
  have e : kidsS (Int.ofNat 15) nm ar n = cond (((eqS nm noText) && (bindable ar)) && (true && Nat.beq (List.length (α := Int) [3]) n)) (some [3]) none := by kernel_rfl
  rw [e]
  dsimp only [argOk, cond]
  exact alg1 _ _ _ _
theorem rowAt16 (M : Mem) : RowAt M 16 := by
  refine ⟨16, _, _, (fun s => eqS s noText), (fun _ n => ([2, 2], Nat.beq (List.length (α := Int) [2, 2]) n)), true, by kernel_rfl, nameFn_none _, these_ret (l := [2, 2]) (rows_at M 25 rfl) (rows_at M 24 rfl).row, fun nm ar n => ?_⟩
  have e : kidsS (Int.ofNat 16) nm ar n = cond (((eqS nm noText) && (bindable ar)) && (true && Nat.beq (List.length (α := Int) [2, 2]) n)) (some [2, 2]) none := by kernel_rfl
  rw [e]
  dsimp only [argOk, cond]
  exact alg1 _ _ _ _
theorem rowAt17 (M : Mem) : RowAt M 17 := by
  refine ⟨17, _, _, (fun s => eqS s noText), (fun _ n => (List.replicate n 2, leF (Int.ofNat 2) (Int.ofNat n) && leF (Int.ofNat n) (Int.ofNat 64))), false, by kernel_rfl, nameFn_none _, many_ret (s := 2) (lo := 2) (hi := 64) (rows_at M 26 rfl) (rows_at M 27 rfl) (rows_at M 28 rfl), fun nm ar n => ?_⟩
  have e : kidsS (Int.ofNat 17) nm ar n = cond (((eqS nm noText) && (eqS ar noText)) && ((leF (Int.ofNat 2) (Int.ofNat n) && leF (Int.ofNat n) (Int.ofNat 64)) && Nat.beq (List.replicate n (2 : Int)).length n)) (some (List.replicate n 2)) none := by kernel_rfl
  rw [e]
  dsimp only [argOk, cond]
  rw [List.length_replicate, beq_self_nat]
  cases (leF (Int.ofNat 2) (Int.ofNat n) && leF (Int.ofNat n) (Int.ofNat 64)) <;> cases eqS nm noText <;> cases eqS ar noText <;> rfl
theorem rowAt18 (M : Mem) : RowAt M 18 := by
  refine ⟨18, _, _, (fun s => eqS s noText), (fun _ n => (List.replicate n 2, leF (Int.ofNat 2) (Int.ofNat n) && leF (Int.ofNat n) (Int.ofNat 64))), false, by kernel_rfl, nameFn_none _, many_ret (s := 2) (lo := 2) (hi := 64) (rows_at M 29 rfl) (rows_at M 30 rfl) (rows_at M 31 rfl), fun nm ar n => ?_⟩
  have e : kidsS (Int.ofNat 18) nm ar n = cond (((eqS nm noText) && (eqS ar noText)) && ((leF (Int.ofNat 2) (Int.ofNat n) && leF (Int.ofNat n) (Int.ofNat 64)) && Nat.beq (List.replicate n (2 : Int)).length n)) (some (List.replicate n 2)) none := by kernel_rfl
  rw [e]
  dsimp only [argOk, cond]
  rw [List.length_replicate, beq_self_nat]
  cases (leF (Int.ofNat 2) (Int.ofNat n) && leF (Int.ofNat n) (Int.ofNat 64)) <;> cases eqS nm noText <;> cases eqS ar noText <;> rfl
theorem rowAt19 (M : Mem) : RowAt M 19 := by
  refine ⟨19, _, _, (fun s => eqS s noText), (fun _ n => ([], Nat.beq (List.length (α := Int) []) n)), false, by kernel_rfl, nameFn_none _, these_ret (l := []) (rows_at M 32 rfl) (.inl rfl), fun nm ar n => ?_⟩
  have e : kidsS (Int.ofNat 19) nm ar n = cond (((eqS nm noText) && (eqS ar noText)) && (true && Nat.beq (List.length (α := Int) []) n)) (some []) none := by kernel_rfl
  rw [e]
  dsimp only [argOk, cond]
  exact alg1 _ _ _ _
theorem rowAt20 (M : Mem) : RowAt M 20 := by
  refine ⟨20, _, _, (fun s => eqS s noText), (fun _ n => ([], Nat.beq (List.length (α := Int) []) n)), false, by kernel_rfl, nameFn_none _, these_ret (l := []) (rows_at M 33 rfl) (.inl rfl), fun nm ar n => ?_⟩
  have e : kidsS (Int.ofNat 20) nm ar n = cond (((eqS nm noText) && (eqS ar noText)) && (true && Nat.beq (List.length (α := Int) []) n)) (some []) none := by kernel_rfl
  rw [e]
  dsimp only [argOk, cond]
  exact alg1 _ _ _ _
theorem rowAt21 (M : Mem) : RowAt M 21 := by
  refine ⟨21, _, _, (has (tagsL.tail)), (fun _ n => ([4], Nat.beq (List.length (α := Int) [4]) n)), false, by kernel_rfl, nameFn_one (l := tagsL.tail) (rows_at M 35 rfl) (rows_at M 34 rfl).row (by decide), these_ret (l := [4]) (rows_at M 37 rfl) (rows_at M 36 rfl).row, fun nm ar n => ?_⟩
  have e : kidsS (Int.ofNat 21) nm ar n = cond (((has (tagsL.tail) nm) && (eqS ar noText)) && (true && Nat.beq (List.length (α := Int) [4]) n)) (some [4]) none := by kernel_rfl
  rw [e]
  dsimp only [argOk, cond]
  exact alg1 _ _ _ _
theorem rowAt22 (M : Mem) : RowAt M 22 := by
  refine ⟨22, _, _, (fun s => eqS s noText), (fun _ n => ([5, 5], Nat.beq (List.length (α := Int) [5, 5]) n)), false, by kernel_rfl, nameFn_none _, these_ret (l := [5, 5]) (rows_at M 39 rfl) (rows_at M 38 rfl).row, fun nm ar n => ?_⟩
  have e : kidsS (Int.ofNat 22) nm ar n = cond (((eqS nm noText) && (eqS ar noText)) && (true && Nat.beq (List.length (α := Int) [5, 5]) n)) (some [5, 5]) none := by kernel_rfl
  rw [e]
  dsimp only [argOk, cond]
  exact alg1 _ _ _ _
theorem rowAt23 (M : Mem) : RowAt M 23 := by
  refine ⟨23, _, _, (fun s => eqS s noText), (fun _ n => ([5, 5], Nat.beq (List.length (α := Int) [5, 5]) n)), false, by kernel_rfl, nameFn_none _, these_ret (l := [5, 5]) (rows_at M 41 rfl) (rows_at M 40 rfl).row, fun nm ar n => ?_⟩
  have e : kidsS (Int.ofNat 23) nm ar n = cond (((eqS nm noText) && (eqS ar noText)) && (true && Nat.beq (List.length (α := Int) [5, 5]) n)) (some [5, 5]) none := by kernel_rfl
  rw [e]
  dsimp only [argOk, cond]
  exact alg1 _ _ _ _
theorem rowAt24 (M : Mem) : RowAt M 24 := by
  refine ⟨24, _, _, (fun s => eqS s noText), (fun _ n => ([5, 5], Nat.beq (List.length (α := Int) [5, 5]) n)), false, by kernel_rfl, nameFn_none _, these_ret (l := [5, 5]) (rows_at M 43 rfl) (rows_at M 42 rfl).row, fun nm ar n => ?_⟩
  have e : kidsS (Int.ofNat 24) nm ar n = cond (((eqS nm noText) && (eqS ar noText)) && (true && Nat.beq (List.length (α := Int) [5, 5]) n)) (some [5, 5]) none := by kernel_rfl
  rw [e]
  dsimp only [argOk, cond]
  exact alg1 _ _ _ _
theorem rowAt25 (M : Mem) : RowAt M 25 := by
  refine ⟨25, _, _, (fun s => eqS s noText), (fun _ n => ([4, 4], Nat.beq (List.length (α := Int) [4, 4]) n)), false, by kernel_rfl, nameFn_none _, these_ret (l := [4, 4]) (rows_at M 45 rfl) (rows_at M 44 rfl).row, fun nm ar n => ?_⟩
  have e : kidsS (Int.ofNat 25) nm ar n = cond (((eqS nm noText) && (eqS ar noText)) && (true && Nat.beq (List.length (α := Int) [4, 4]) n)) (some [4, 4]) none := by kernel_rfl
  rw [e]
  dsimp only [argOk, cond]
  exact alg1 _ _ _ _
theorem rowAt26 (M : Mem) : RowAt M 26 := by
  refine ⟨26, _, _, (fun s => eqS s noText), (fun _ n => ([4, 4], Nat.beq (List.length (α := Int) [4, 4]) n)), false, by kernel_rfl, nameFn_none _, these_ret (l := [4, 4]) (rows_at M 47 rfl) (rows_at M 46 rfl).row, fun nm ar n => ?_⟩
  have e : kidsS (Int.ofNat 26) nm ar n = cond (((eqS nm noText) && (eqS ar noText)) && (true && Nat.beq (List.length (α := Int) [4, 4]) n)) (some [4, 4]) none := by kernel_rfl
  rw [e]
  dsimp only [argOk, cond]
  exact alg1 _ _ _ _
theorem rowAt30 (M : Mem) : RowAt M 30 := by
  refine ⟨27, _, _, (fun s => eqS s noText), (fun _ n => ([4, 2], Nat.beq (List.length (α := Int) [4, 2]) n)), false, by kernel_rfl, nameFn_none _, these_ret (l := [4, 2]) (rows_at M 49 rfl) (rows_at M 48 rfl).row, fun nm ar n => ?_⟩
  have e : kidsS (Int.ofNat 30) nm ar n = cond (((eqS nm noText) && (eqS ar noText)) && (true && Nat.beq (List.length (α := Int) [4, 2]) n)) (some [4, 2]) none := by kernel_rfl
  rw [e]
  dsimp only [argOk, cond]
  exact alg1 _ _ _ _
theorem rowAt27 (M : Mem) : RowAt M 27 := by
  refine ⟨28, _, _, (fun s => eqS s noText), (fun _ n => (List.replicate n 3, leF (Int.ofNat 0) (Int.ofNat n) && leF (Int.ofNat n) (Int.ofNat 64))), false, by kernel_rfl, nameFn_none _, many_ret (s := 3) (lo := 0) (hi := 64) (rows_at M 50 rfl) (rows_at M 51 rfl) (rows_at M 52 rfl), fun nm ar n => ?_⟩
  have e : kidsS (Int.ofNat 27) nm ar n = cond (((eqS nm noText) && (eqS ar noText)) && ((leF (Int.ofNat n) (Int.ofNat 64)) && Nat.beq (List.replicate n (3 : Int)).length n)) (some (List.replicate n 3)) none := by kernel_rfl
  rw [e]
  dsimp only [argOk, cond]
  rw [List.length_replicate, beq_self_nat, show leF (Int.ofNat 0) (Int.ofNat n) = true from leF_t.2 (Int.natCast_nonneg n)]
  cases leF (Int.ofNat n) (Int.ofNat 64) <;> cases eqS nm noText <;> cases eqS ar noText <;> rfl
theorem rowAt28 (M : Mem) : RowAt M 28 := by
  refine ⟨29, _, _, (fun s => eqS s noText), (fun _ n => (List.replicate n 3, leF (Int.ofNat 0) (Int.ofNat n) && leF (Int.ofNat n) (Int.ofNat 64))), false, by kernel_rfl, nameFn_none _, many_ret (s := 3) (lo := 0) (hi := 64) (rows_at M 53 rfl) (rows_at M 54 rfl) (rows_at M 55 rfl), fun nm ar n => ?_⟩
  have e : kidsS (Int.ofNat 28) nm ar n = cond (((eqS nm noText) && (eqS ar noText)) && ((leF (Int.ofNat n) (Int.ofNat 64)) && Nat.beq (List.replicate n (3 : Int)).length n)) (some (List.replicate n 3)) none := by kernel_rfl
  rw [e]
  dsimp only [argOk, cond]
  rw [List.length_replicate, beq_self_nat, show leF (Int.ofNat 0) (Int.ofNat n) = true from leF_t.2 (Int.natCast_nonneg n)]
  cases leF (Int.ofNat n) (Int.ofNat 64) <;> cases eqS nm noText <;> cases eqS ar noText <;> rfl
theorem rowAt29 (M : Mem) : RowAt M 29 := by
  refine ⟨30, _, _, (fun s => eqS s noText), (fun _ n => ([3], Nat.beq (List.length (α := Int) [3]) n)), false, by kernel_rfl, nameFn_none _, these_ret (l := [3]) (rows_at M 57 rfl) (rows_at M 56 rfl).row, fun nm ar n => ?_⟩
  have e : kidsS (Int.ofNat 29) nm ar n = cond (((eqS nm noText) && (eqS ar noText)) && (true && Nat.beq (List.length (α := Int) [3]) n)) (some [3]) none := by kernel_rfl
  rw [e]
  dsimp only [argOk, cond]
  exact alg1 _ _ _ _
theorem rowAt31 (M : Mem) : RowAt M 31 := by
  refine ⟨31, _, _, (fun s => eqS s noText), (fun _ n => ([4, 4], Nat.beq (List.length (α := Int) [4, 4]) n)), false, by kernel_rfl, nameFn_none _, these_ret (l := [4, 4]) (rows_at M 59 rfl) (rows_at M 58 rfl).row, fun nm ar n => ?_⟩
  have e : kidsS (Int.ofNat 31) nm ar n = cond (((eqS nm noText) && (eqS ar noText)) && (true && Nat.beq (List.length (α := Int) [4, 4]) n)) (some [4, 4]) none := by kernel_rfl
  rw [e]
  dsimp only [argOk, cond]
  exact alg1 _ _ _ _
theorem rowAt32 (M : Mem) : RowAt M 32 := by
  refine ⟨32, _, _, (fun s => eqS s noText), (fun _ n => ([4, 4, 4], Nat.beq (List.length (α := Int) [4, 4, 4]) n)), false, by kernel_rfl, nameFn_none _, these_ret (l := [4, 4, 4]) (rows_at M 61 rfl) (rows_at M 60 rfl).row, fun nm ar n => ?_⟩
  have e : kidsS (Int.ofNat 32) nm ar n = cond (((eqS nm noText) && (eqS ar noText)) && (true && Nat.beq (List.length (α := Int) [4, 4, 4]) n)) (some [4, 4, 4]) none := by kernel_rfl
  rw [e]
  dsimp only [argOk, cond]
  exact alg1 _ _ _ _
theorem rowAt33 (M : Mem) : RowAt M 33 := by
  refine ⟨33, _, _, (fun s => eqS s noText), (fun _ n => ([5, 5], Nat.beq (List.length (α := Int) [5, 5]) n)), false, by kernel_rfl, nameFn_none _, these_ret (l := [5, 5]) (rows_at M 63 rfl) (rows_at M 62 rfl).row, fun nm ar n => ?_⟩
  have e : kidsS (Int.ofNat 33) nm ar n = cond (((eqS nm noText) && (eqS ar noText)) && (true && Nat.beq (List.length (α := Int) [5, 5]) n)) (some [5, 5]) none := by kernel_rfl
  rw [e]
  dsimp only [argOk, cond]
  exact alg1 _ _ _ _
theorem rowAt34 (M : Mem) : RowAt M 34 := by
  refine ⟨34, _, _, (fun s => eqS s noText), (fun _ n => ([5, 5], Nat.beq (List.length (α := Int) [5, 5]) n)), false, by kernel_rfl, nameFn_none _, these_ret (l := [5, 5]) (rows_at M 65 rfl) (rows_at M 64 rfl).row, fun nm ar n => ?_⟩
  have e : kidsS (Int.ofNat 34) nm ar n = cond (((eqS nm noText) && (eqS ar noText)) && (true && Nat.beq (List.length (α := Int) [5, 5]) n)) (some [5, 5]) none := by kernel_rfl
  rw [e]
  dsimp only [argOk, cond]
  exact alg1 _ _ _ _
theorem rowAt35 (M : Mem) : RowAt M 35 := by
  refine ⟨35, _, _, isNumber, (fun _ n => ([5], Nat.beq (List.length (α := Int) [5]) n)), false, by kernel_rfl, nameFn_num _, these_ret (l := [5]) (rows_at M 67 rfl) (rows_at M 66 rfl).row, fun nm ar n => ?_⟩
  have e : kidsS (Int.ofNat 35) nm ar n = cond (((isNumber nm) && (eqS ar noText)) && (true && Nat.beq (List.length (α := Int) [5]) n)) (some [5]) none := by kernel_rfl
  rw [e]
  dsimp only [argOk, cond]
  exact alg1 _ _ _ _
theorem rowAt (M : Mem) : ∀ k, k < 36 → RowAt M k
  | 0, _ => rowAt0 M
  | 1, _ => rowAt1 M
  | 2, _ => rowAt2 M
  | 3, _ => rowAt3 M
  | 4, _ => rowAt4 M
  | 5, _ => rowAt5 M
  | 6, _ => rowAt6 M
  | 7, _ => rowAt7 M
  | 8, _ => rowAt8 M
  | 9, _ => rowAt9 M
  | 10, _ => rowAt10 M
  | 11, _ => rowAt11 M
  | 12, _ => rowAt12 M
  | 13, _ => rowAt13 M
  | 14, _ => rowAt14 M
  | 15, _ => rowAt15 M
  | 16, _ => rowAt16 M
  | 17, _ => rowAt17 M
  | 18, _ => rowAt18 M
  | 19, _ => rowAt19 M
  | 20, _ => rowAt20 M
  | 21, _ => rowAt21 M
  | 22, _ => rowAt22 M
  | 23, _ => rowAt23 M
  | 24, _ => rowAt24 M
  | 25, _ => rowAt25 M
  | 26, _ => rowAt26 M
  | 27, _ => rowAt27 M
  | 28, _ => rowAt28 M
  | 29, _ => rowAt29 M
  | 30, _ => rowAt30 M
  | 31, _ => rowAt31 M
  | 32, _ => rowAt32 M
  | 33, _ => rowAt33 M
  | 34, _ => rowAt34 M
  | 35, _ => rowAt35 M
  | n + 36, h => absurd h (by omega)
theorem find_out {d : Nat} {i : Int} (h : ¬ (0 ≤ i ∧ i ≤ 35)) : findA (.int .i64) (.int .i64 i) (rowsEs d) 0 = some none := by
  refine find_no fun e he => ?_
  simp only [rowsEs, List.mem_cons, List.mem_nil_iff, or_false] at he
  rcases he with rfl | rfl | rfl | rfl | rfl | rfl | rfl | rfl | rfl | rfl | rfl | rfl | rfl | rfl | rfl | rfl | rfl | rfl | rfl | rfl | rfl | rfl | rfl | rfl | rfl | rfl | rfl | rfl | rfl | rfl | rfl | rfl | rfl | rfl | rfl | rfl
  all_goals exact ⟨_, rfl, fun e => h (by subst e; decide)⟩

end Go.Proofs.YtabkcbaknjenmaaAM

/-
  THE NODE LAWS: closed code is run, with what is known of names, and of rows.
-/
set_option linter.unusedVariables false
set_option linter.unusedSimpArgs false
namespace Go.Proofs.YtabkcbaknjenmaaAM
open Go Go.Proofs
set_option maxRecDepth 100000
set_option maxHeartbeats 4000000

def XK : FuncId → List Value → Mem → Option (Value × Mem) := fun f args M =>
  match args with
  | [] => match Nat.beq f 33 with
    | true => some (.map (some M.length), M ++ rowsM M.length)
    | false => none
  | [.string s] => match Nat.blt s.size 4611686018427387904 with
    | true => match Nat.beq f 16 with
      | true => some (.bool (bindable s), M)
      | false => match Nat.beq f 58 with
        | true => some (.bool (isNumber s), M)
        | false => match Nat.beq f 62 with
          | true => some (.bool (has opsL s), M)
          | false => match Nat.beq f 89 with
            | true => some (.bool (has testsL s), M)
            | false => match Nat.beq f 37 with
              | true => some (.bool (isName s), M)
              | false => none
    | false => none
  | [.slice (some ⟨x, o, none⟩) n c, .int .i64 (.ofNat k)] => match Nat.beq f 85, Nat.beq n 1, Nat.ble k 1000000, cellAt M x o with
    | true, true, true, some (.int .i64 i) => some (.slice (some ⟨M.length, 0, none⟩) k k, M ++ [.cells (List.replicate k (.int .i64 i)) 1 .live])
    | _, _, _, _ => none
  | _ => none
theorem XK_ok : ∀ f args M v M', XK f args M = some (v, M') → Ret Try.prog f args M v M' := by
  intro f args M v M' h
  unfold XK at h
  split at h
  · split at h
    · rename_i hf
      have hf := Nat.eq_of_beq_eq_true hf
      injection h with h; injection h with h1 h2; subst h1; subst h2; subst hf
      exact rows_ret M
    · simp at h
  · rename_i s
    split at h
    · rename_i hs
      have hs : Short s := by rw [Nat.blt_eq] at hs; exact hs
      split at h
      · rename_i hf
        have hf := Nat.eq_of_beq_eq_true hf
        injection h with h; injection h with h1 h2; subst h1; subst h2; subst hf
        exact nodeName_ret hs M
      · split at h
        · rename_i hf
          have hf := Nat.eq_of_beq_eq_true hf
          injection h with h; injection h with h1 h2; subst h1; subst h2; subst hf
          exact lexNumber_ret hs M
        · split at h
          · rename_i hf
            have hf := Nat.eq_of_beq_eq_true hf
            injection h with h; injection h with h1 h2; subst h1; subst h2; subst hf
            exact op_ret s M
          · split at h
            · rename_i hf
              have hf := Nat.eq_of_beq_eq_true hf
              injection h with h; injection h with h1 h2; subst h1; subst h2; subst hf
              exact test_ret s M
            · split at h
              · rename_i hf
                have hf := Nat.eq_of_beq_eq_true hf
                injection h with h; injection h with h1 h2; subst h1; subst h2; subst hf
                exact lexName_ret hs M
              · simp at h
    · simp at h
  · rename_i x o n c k
    split at h
    · rename_i i hf hn hk hc
      have hf := Nat.eq_of_beq_eq_true hf
      have hn := Nat.eq_of_beq_eq_true hn
      have hk := Nat.le_of_ble_eq_true hk
      injection h with h; injection h with h1 h2; subst h1; subst h2; subst hf; subst hn
      exact repeat_ret hc hk
    · simp at h
  · simp at h

/-! ### What a run has left behind is dropped -/
def sameFn : Fn → Fn → Bool
  | .func a, .func b => Nat.beq a b
  | _, _ => false
def sameA : Option Addr → Option Addr → Bool
  | none, none => true
  | some ⟨b, o, none⟩, some ⟨b', o', none⟩ => Nat.beq b b' && Nat.beq o o'
  | _, _ => false
def sameWL (f : Value → Value → Bool) : List Value → List Value → Bool
  | [], [] => true
  | x :: l, y :: k => f x y && sameWL f l k
  | _, _ => false
def sameW : Nat → Value → Value → Bool
  | 0, _, _ => false
  | n + 1, a, b => match a, b with
    | .bool a, .bool b => a == b
    | .int k a, .int k' b => kEq k k' && eqF a b
    | .string a, .string b => eqS a b
    | .pointer a, .pointer b => sameA a b
    | .slice a m c, .slice a' m' c' => sameA a a' && (Nat.beq m m' && Nat.beq c c')
    | .map none, .map none => true
    | .map (some a), .map (some b) => Nat.beq a b
    | .func f a b, .func f' a' b' => sameFn f f' && (sameWL (sameW n) a.toList a'.toList && sameWL (sameW n) b.toList b'.toList)
    | .nilFunc, .nilFunc => true
    | .nilIface, .nilIface => true
    | .agg a, .agg b => sameWL (sameW n) a.toList b.toList
    | _, _ => false
theorem sameFn_eq {a b : Fn} (h : sameFn a b = true) : a = b := by
  cases a <;> cases b <;> simp only [sameFn] at h <;> first | exact congrArg _ (Nat.eq_of_beq_eq_true h) | simp at h
theorem sameA_eq {a b : Option Addr} (h : sameA a b = true) : a = b := by
  unfold sameA at h
  split at h
  · rfl
  · simp only [Bool.and_eq_true] at h
    rw [Nat.eq_of_beq_eq_true h.1, Nat.eq_of_beq_eq_true h.2]
  · simp at h
theorem sameWL_eq {f : Value → Value → Bool} (hf : ∀ a b, f a b = true → a = b) : ∀ {a b : List Value}, sameWL f a b = true → a = b
  | [], [], _ => rfl
  | x :: l, y :: k, h => by
    simp only [sameWL, Bool.and_eq_true] at h
    rw [hf _ _ h.1, sameWL_eq hf h.2]
  | [], _ :: _, h => by simp [sameWL] at h
  | _ :: _, [], h => by simp [sameWL] at h
theorem sameW_eq : ∀ (n : Nat) (a b : Value), sameW n a b = true → a = b
  | 0, a, b, h => by simp [sameW] at h
  | n + 1, a, b, h => by
    have ih := sameW_eq n
    have ihL : ∀ {a b : Array Value}, sameWL (sameW n) a.toList b.toList = true → a = b := fun h => Array.toList_inj.1 (sameWL_eq ih h)
    unfold sameW at h
    split at h
    · simp at h; rw [h]
    · simp only [Bool.and_eq_true] at h; rw [kEq_eq h.1, eqF_t.1 h.2]
    · rw [eqS_t.1 h]
    · rw [sameA_eq h]
    · simp only [Bool.and_eq_true] at h; rw [sameA_eq h.1, Nat.eq_of_beq_eq_true h.2.1, Nat.eq_of_beq_eq_true h.2.2]
    · rfl
    · rw [Nat.eq_of_beq_eq_true h]
    · simp only [Bool.and_eq_true] at h; rw [sameFn_eq h.1, ihL h.2.1, ihL h.2.2]
    · rfl
    · rfl
    · rw [ihL h]
    · simp at h
def sameEs : List (Value × Value) → List (Value × Value) → Bool
  | [], [] => true
  | x :: l, y :: k => sameW 4 x.1 y.1 && (sameW 4 x.2 y.2 && sameEs l k)
  | _, _ => false
theorem sameEs_eq : ∀ {a b : List (Value × Value)}, sameEs a b = true → a = b
  | [], [], _ => rfl
  | x :: l, y :: k, h => by
    simp only [sameEs, Bool.and_eq_true] at h
    rw [sameEs_eq h.2.2, Prod.ext (sameW_eq _ _ _ h.1) (sameW_eq _ _ _ h.2.1)]
  | [], _ :: _, h => by simp [sameEs] at h
  | _ :: _, [], h => by simp [sameEs] at h
def modeB : Mode → Mode → Bool
  | .ro, .ro => true
  | .live, .live => true
  | .dead, .dead => true
  | _, _ => false
def sameOb : AObj → AObj → Bool
  | .cells a u m, .cells a' u' m' => Nat.beq u u' && (modeB m m' && sameWL (sameW 4) a a')
  | .map a, .map b => sameEs a b
  | _, _ => false
theorem sameOb_eq {a b : AObj} (h : sameOb a b = true) : a = b := by
  unfold sameOb at h
  split at h
  · rename_i a u m a' u' m'
    simp only [Bool.and_eq_true] at h
    have hm : m = m' := by cases m <;> cases m' <;> first | rfl | simp [modeB] at h
    rw [Nat.eq_of_beq_eq_true h.1, hm, sameWL_eq (sameW_eq 4) h.2.2]
  · rw [sameEs_eq h]
  · simp at h
def prefB : Mem → Mem → Bool
  | [], _ => true
  | o :: l, o' :: l' => sameOb o o' && prefB l l'
  | _ :: _, [] => false
theorem prefB_eq : ∀ {a b : Mem}, prefB a b = true → ∃ G, b = a ++ G
  | [], b, _ => ⟨b, rfl⟩
  | o :: l, o' :: l', h => by
    simp only [prefB, Bool.and_eq_true] at h
    obtain ⟨G, e⟩ := prefB_eq h.2
    exact ⟨G, by rw [e, sameOb_eq h.1]; rfl⟩
  | _ :: _, [], h => by simp [prefB] at h

/-- Functions that are run by themselves. -/
def alone (f : FuncId) : Bool := Nat.beq f 21 || (Nat.beq f 22 || (Nat.beq f 23 || (Nat.beq f 27 || (Nat.beq f 25 || Nat.beq f 18))))
noncomputable def XR : FuncId → List Value → Mem → Option (Value × Mem) := fun f args M =>
  match XK f args M with
  | some r => some r
  | none => match alone f with
    | true => match runF Try.prog XK 300 (.call .normal f args M) with
      | some (.call (.ret v) M' _) => match plain1 v, prefB M M' with
        | true, true => some (v, M)
        | _, _ => none
      | _ => none
    | false => none
theorem XR_ok : ∀ f args M v M', XR f args M = some (v, M') → Ret Try.prog f args M v M' := by
  intro f args M v M' h
  unfold XR at h
  split at h
  · rename_i r hr
    injection h with h; subst h
    exact XK_ok _ _ _ _ _ hr
  · split at h
    · split at h
      · rename_i v0 M0 rc hrun
        split at h
        · rename_i hv hp
          injection h with h; injection h with h1 h2; subst h1; subst h2
          obtain ⟨G, rfl⟩ := prefB_eq hp
          exact (Ret.run hP XK_ok hrun).drop hv
        · simp at h
      · simp at h
    · simp at h

end Go.Proofs.YtabkcbaknjenmaaAM
