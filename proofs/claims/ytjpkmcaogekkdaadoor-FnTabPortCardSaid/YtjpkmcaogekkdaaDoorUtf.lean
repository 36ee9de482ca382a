/- unicode/utf8.DecodeRuneInString in this program: the library's contract laid at the dump's numbers (by the kit's own tool), and what the model's decoder says of a text. -/
import Derived.Shelf.Unicode.DecodeAny
import Derived.Lib.DecodeN
import Derived.Lib.Strings
import Derived.Lib.LaidU8
import Derived.PinnedBridge
import Derived.Test.YtjpkmcaogekkdaaDoorProg
namespace Go.Proofs.YtjpkmcaogekkdaaDoor.Dec
open Go.Shelf
set_option linter.unusedVariables false
set_option linter.unusedSimpArgs false
def lays260_ren : Go.Shelf.Ren := ⟨fun | 260 => 48 | n => n, fun | 9 => 9 | 21 => 21 | 3 => 3 | 4 => 4 | 5 => 5 | 119 => 100 | 0 => 0 | 46 => 101 | 139 => 104 | 138 => 103 | n => n, fun | 3 => 0 | 4 => 1 | n => n⟩
theorem lays260 : Go.Proofs.Lays.n260 Tryd.prog lays260_ren := {
  mixed := by kernel_rfl
  f260 := Tryd.func48.trans (congrArg some (by kernel_rfl))
  t0 := Tryd.underlying0
  a0 := Tryd.isAgg0
  z0 := Tryd.sizeOf0
  v0 := Tryd.zeroValue0
  t3 := Tryd.underlying3
  a3 := Tryd.isAgg3
  z3 := Tryd.sizeOf3
  v3 := Tryd.zeroValue3
  t4 := Tryd.underlying4
  a4 := Tryd.isAgg4
  z4 := Tryd.sizeOf4
  v4 := Tryd.zeroValue4
  t5 := Tryd.underlying5
  a5 := Tryd.isAgg5
  z5 := Tryd.sizeOf5
  v5 := Tryd.zeroValue5
  t9 := Tryd.underlying9
  a9 := Tryd.isAgg9
  z9 := Tryd.sizeOf9
  v9 := Tryd.zeroValue9
  t21 := Tryd.underlying21
  a21 := Tryd.isAgg21
  z21 := Tryd.sizeOf21
  v21 := Tryd.zeroValue21
  t46 := Tryd.underlying101
  a46 := Tryd.isAgg101
  z46 := Tryd.sizeOf101
  v46 := Tryd.zeroValue101
  t119 := Tryd.underlying100
  a119 := Tryd.isAgg100
  z119 := Tryd.sizeOf100
  t138 := Tryd.underlying103
  a138 := Tryd.isAgg103
  z138 := Tryd.sizeOf103
  v138 := Tryd.zeroValue103
  t139 := Tryd.underlying104
  a139 := Tryd.isAgg104
  z139 := Tryd.sizeOf104
  v139 := Tryd.zeroValue104
  g3 := by kernel_rfl
  g4 := by kernel_rfl }
def lays197_ren : Go.Shelf.Ren := ⟨fun | 197 => 24 | 260 => 48 | n => n, fun | 9 => 9 | 21 => 21 | 3 => 3 | 4 => 4 | 5 => 5 | 105 => 52 | 119 => 100 | 0 => 0 | 46 => 101 | 139 => 104 | 138 => 103 | n => n, fun | 3 => 0 | 4 => 1 | n => n⟩
theorem lays197 : Go.Proofs.Lays.n197 Tryd.prog lays197_ren := {
  mixed := by kernel_rfl
  f197 := Tryd.func24.trans (congrArg some (by kernel_rfl))
  f260 := Tryd.func48.trans (congrArg some (by kernel_rfl))
  t0 := Tryd.underlying0
  a0 := Tryd.isAgg0
  z0 := Tryd.sizeOf0
  v0 := Tryd.zeroValue0
  t3 := Tryd.underlying3
  a3 := Tryd.isAgg3
  z3 := Tryd.sizeOf3
  v3 := Tryd.zeroValue3
  t4 := Tryd.underlying4
  a4 := Tryd.isAgg4
  z4 := Tryd.sizeOf4
  v4 := Tryd.zeroValue4
  t5 := Tryd.underlying5
  a5 := Tryd.isAgg5
  z5 := Tryd.sizeOf5
  v5 := Tryd.zeroValue5
  t9 := Tryd.underlying9
  a9 := Tryd.isAgg9
  z9 := Tryd.sizeOf9
  v9 := Tryd.zeroValue9
  t21 := Tryd.underlying21
  a21 := Tryd.isAgg21
  z21 := Tryd.sizeOf21
  v21 := Tryd.zeroValue21
  t46 := Tryd.underlying101
  a46 := Tryd.isAgg101
  z46 := Tryd.sizeOf101
  v46 := Tryd.zeroValue101
  t105 := Tryd.underlying52
  a105 := Tryd.isAgg52
  z105 := Tryd.sizeOf52
  v105 := Tryd.zeroValue52
  t119 := Tryd.underlying100
  a119 := Tryd.isAgg100
  z119 := Tryd.sizeOf100
  t138 := Tryd.underlying103
  a138 := Tryd.isAgg103
  z138 := Tryd.sizeOf103
  v138 := Tryd.zeroValue103
  t139 := Tryd.underlying104
  a139 := Tryd.isAgg104
  z139 := Tryd.sizeOf104
  v139 := Tryd.zeroValue104
  g3 := by kernel_rfl
  g4 := by kernel_rfl }
open Go.RowKit Go.Lib in
/-- **unicode/utf8.DecodeRuneInString AT EVERY STRING.** (LAID: no walk: one application.) -/
theorem utf8_DecodeRuneInString (s : ByteArray) (w : World) (hT : Lib.Utf8Tabs 0 1 w) :
    Calls Tryd.prog 24 #[.string s] w fun e w' => e = .returned (.tuple #[.int .i32 (Lib.decodeGo s).1, .int .i64 (Lib.decodeGo s).2]) ∧ Below w.heap.size w w' := Any.utf8_DecodeRuneInString lays197 s w hT
/-- What the model's decoder says of a text that is not empty. -/
theorem dec_facts (s : ByteArray) (hs : 0 < s.size) (r n : Nat) (h : Utf8.decode s 0 = (r, n)) :
    1 ≤ n ∧ n ≤ s.size ∧ n ≤ 4 ∧ r ≤ 1114111 ∧ ((r = 65533 ∧ n = 1) ∨ ((Utf8.encode r).size = n ∧ ¬ (r = 65533 ∧ n = 1))) ∧
      (r = 65533 → n ≠ 1 → n = 3 ∧ 3 ≤ s.size ∧ s.get! 0 = 239 ∧ s.get! 1 = 191 ∧ s.get! 2 = 189) ∧
      (3 ≤ s.size → s.get! 0 = 239 → s.get! 1 = 191 → s.get! 2 = 189 → r = 65533 ∧ n = 3) := by
  rw [Lib.decode_at] at h
  simp only [Nat.zero_add, Nat.sub_zero] at h
  have e0 : s.get! 0 = 239 ↔ (s.get! 0).toNat = 239 := by rw [← UInt8.toNat_inj]; rfl
  have e1 : s.get! 1 = 191 ↔ (s.get! 1).toNat = 191 := by rw [← UInt8.toNat_inj]; rfl
  have e2 : s.get! 2 = 189 ↔ (s.get! 2).toNat = 189 := by rw [← UInt8.toNat_inj]; rfl
  rw [e0, e1, e2]
  have l0 := (s.get! 0).toNat_lt
  have l1 := (s.get! 1).toNat_lt
  have l2 := (s.get! 2).toNat_lt
  have l3 := (s.get! 3).toNat_lt
  generalize (s.get! 0).toNat = b0 at *
  generalize (s.get! 1).toNat = b1 at *
  generalize (s.get! 2).toNat = b2 at *
  generalize (s.get! 3).toNat = b3 at *
  have henc : ∀ c : Nat, c ≤ 1114111 → (c < 55296 ∨ 57344 ≤ c) → (Utf8.encode c).size = if c < 128 then 1 else if c < 2048 then 2 else if c < 65536 then 3 else 4 := by
    intro c h1 h2
    have hv : Utf8.valid (c : Int) = true := by
      simp only [Utf8.valid, Bool.or_eq_true, Bool.and_eq_true, decide_eq_true_eq]
      omega
    unfold Utf8.encode
    simp only [hv, if_true, Int.toNat_natCast]
    repeat' split
    all_goals first | rfl | omega
  unfold Lib.decodeN at h
  repeat' split at h
  all_goals
    simp only [Prod.mk.injEq] at h
    obtain ⟨rfl, rfl⟩ := h
  · rw [henc _ (by omega) (by omega), if_pos (by omega)]
    refine ⟨by omega, by omega, by omega, by omega, by omega, by omega, by omega⟩
  · rw [henc _ (by omega) (by omega), if_neg (by omega), if_pos (by omega)]
    refine ⟨by omega, by omega, by omega, by omega, by omega, by omega, by omega⟩
  · refine ⟨by omega, by omega, by omega, by omega, by omega, by omega, by omega⟩
  · rw [henc _ (by omega) (by omega), if_neg (by omega), if_neg (by omega), if_pos (by omega)]
    refine ⟨by omega, by omega, by omega, by omega, by omega, by omega, by omega⟩
  · refine ⟨by omega, by omega, by omega, by omega, by omega, by omega, by omega⟩
  · rw [henc _ (by omega) (by omega), if_neg (by omega), if_neg (by omega), if_neg (by omega)]
    refine ⟨by omega, by omega, by omega, by omega, by omega, by omega, by omega⟩
  · refine ⟨by omega, by omega, by omega, by omega, by omega, by omega, by omega⟩
  · refine ⟨by omega, by omega, by omega, by omega, by omega, by omega, by omega⟩

/-- What the tables' bridges ask of the program. -/
theorem u8extra : U8Extra Tryd.prog lays260_ren :=
  ⟨by kernel_rfl, by kernel_rfl, by kernel_rfl, by kernel_rfl, by kernel_rfl, by kernel_rfl, by kernel_rfl⟩

open Go.RowKit in
/-- The tables stand where the blocks below stand. -/
theorem tabs_below {w w' : World} (hT : Lib.Utf8Tabs 0 1 w) (h1 : 1 < w.heap.size) (hb : Below w.heap.size w w') : Lib.Utf8Tabs 0 1 w' := by
  refine ⟨fun c hc => ?_, fun i hi => ⟨?_, ?_⟩⟩
  · rw [hb.cell (p := ⟨0, c, none⟩) (by show 0 < _; omega)]; exact hT.1 c hc
  · rw [hb.cell (p := ⟨1, _, none⟩) (by show 1 < _; omega)]; exact (hT.2 i hi).1
  · rw [hb.cell (p := ⟨1, _, none⟩) (by show 1 < _; omega)]; exact (hT.2 i hi).2
end Go.Proofs.YtjpkmcaogekkdaaDoor.Dec
