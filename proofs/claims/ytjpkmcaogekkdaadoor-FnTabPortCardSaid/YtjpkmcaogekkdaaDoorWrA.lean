/- Atoms written in the reference, walked: that some text comes back, not too long. -/
import Derived.Test.YtjpkmcaogekkdaaDoorGrC
namespace Go.Proofs.YtjpkmcaogekkdaaDoor.Wr
open Go.RowKit Go.Proofs.YtjpkmcaogekkdaaDoor.Rm Go.Proofs.YtjpkmcaogekkdaaDoor.Nu Go.Proofs.YtjpkmcaogekkdaaDoor.Gr
set_option linter.unusedVariables false
set_option linter.unusedSimpArgs false

/-- a text of at most n bytes -/
def TxtE (n : Nat) (e : Ending) : Prop := ∃ r : ByteArray, e = .returned (.string r) ∧ r.size ≤ n

theorem ext1 (s : ByteArray) (a : Nat) : (s.extract a (a + 1)).size ≤ 1 := by
  rw [ByteArray.size_extract]
  omega
set_option maxRecDepth 100000 in
theorem l15Hex_low (n : Nat) (w : World) (h : n < 16) : Calls Tryd.prog 124 #[.int .i64 n] w fun e w' => TxtE 1 e ∧ w = w' := by
  have hx := ext1 ⟨#[48, 49, 50, 51, 52, 53, 54, 55, 56, 57, 97, 98, 99, 100, 101, 102]⟩ (n % 16)
  go_enter Tryd.func124, Tryd.ntmps124
  go_wp2
  go_ret
  exact ⟨⟨_, rfl, hx⟩, rfl⟩
set_option maxRecDepth 100000 in
theorem l15Hex_any (n : Nat) (w : World) (h : n < 256) : Calls Tryd.prog 124 #[.int .i64 n] w fun e w' => TxtE 2 e ∧ w = w' := by
  by_cases hlow : n < 16
  · exact (l15Hex_low n w hlow).mono fun e w' ⟨⟨r, h1, h2⟩, h3⟩ => ⟨⟨r, h1, by omega⟩, h3⟩
  have hx := ext1 ⟨#[48, 49, 50, 51, 52, 53, 54, 55, 56, 57, 97, 98, 99, 100, 101, 102]⟩ (n % 16)
  have HL := Lib.hid (l15Hex_low (n / 16) w (by omega))
  go_enter Tryd.func124, Tryd.ntmps124
  go_wp2_with (go_at_call 124; refine HL.out.mono ?_; rintro e w' ⟨⟨r, rfl, hr⟩, rfl⟩)
  go_ret
  exact ⟨⟨_, rfl, by rw [ByteArray.size_append]; omega⟩, rfl⟩

theorem sz2 (x y : UInt8) : (⟨#[x, y]⟩ : ByteArray).size = 2 := rfl
theorem u8nat (b : UInt8) : b.toNat < 256 := b.toNat_lt

set_option maxHeartbeats 4000000 in
set_option maxRecDepth 100000 in
theorem l15String_any (s : ByteArray) (w : World) (hs : s.size ≤ 1000000) : Calls Tryd.prog 110 #[.string s] w fun e w' => TxtE (2 + 5 * s.size) e ∧ w = w' := by
  go_enter Tryd.func110, Tryd.ntmps110
  go_wp2
  go_loopw [3, 4] (fun o i wr => ∃ (k : Nat) (t : ByteArray), o = .string t ∧ i = .int .i64 k ∧ k ≤ s.size ∧ t.size ≤ 1 + 5 * k ∧ w = wr) (fun o i wr => s.size - (intOf i).toNat)
  case atStart => exact ⟨0, _, rfl, rfl, by omega, (show 1 ≤ 1 + 5 * 0 by omega), rfl⟩
  case round =>
    obtain ⟨k, t, rfl, rfl, hk, ht, rfl⟩ := hrel
    by_cases hlt : k < s.size
    · have hx := ext1 s k
      have h256 : (s[k].toNat : Int) < 256 := by have := s[k].toNat_lt; omega
      have HX := Lib.hid (fun w => l15Hex_any s[k].toNat w (s[k].toNat_lt))
      go_wp2_with (go_at_call 124; refine (HX.out _).mono ?_; rintro e w' ⟨⟨r, rfl, hr⟩, rfl⟩)
      all_goals exact ⟨⟨k + 1, _, rfl, by go_num, by omega, by simp only [ByteArray.size_append, sz1, sz2]; omega, trivial⟩, by simp [intOf]; omega⟩
    · go_wp2
      go_ret
      exact ⟨⟨_, rfl, by rw [ByteArray.size_append]; show t.size + 1 ≤ _; omega⟩, rfl⟩

set_option maxHeartbeats 4000000 in
set_option maxRecDepth 100000 in
theorem l15Char_any (s : ByteArray) (w : World) (hs : s.size ≤ 1000000) (h0 : 0 < s.size) : Calls Tryd.prog 111 #[.string s] w fun e w' => TxtE (10 + s.size) e ∧ w = w' := by
  have h256 : (s[0].toNat : Int) < 256 := by have := s[0].toNat_lt; omega
  have HX := Lib.hid (fun w => l15Hex_any s[0].toNat w (s[0].toNat_lt))
  go_enter Tryd.func111, Tryd.ntmps111
  go_wp2_with (go_at_call 124; refine (HX.out _).mono ?_; rintro e w' ⟨⟨r, rfl, hr⟩, rfl⟩)
  all_goals go_ret
  all_goals first | exact ⟨⟨_, rfl, by rw [ByteArray.size_append]; show 3 + r.size ≤ _; omega⟩, rfl⟩ | exact ⟨⟨_, rfl, by rw [ByteArray.size_append]; show 2 + s.size ≤ _; omega⟩, rfl⟩ | exact ⟨⟨_, rfl, by first | (show 7 ≤ 10 + s.size; omega) | (show 9 ≤ 10 + s.size; omega) | (show 5 ≤ 10 + s.size; omega) | (show 6 ≤ 10 + s.size; omega)⟩, rfl⟩

set_option maxHeartbeats 4000000 in
set_option maxRecDepth 100000 in
theorem l15Raw_any (s : ByteArray) (w : World) (hs : s.size ≤ 1000000) : Calls Tryd.prog 112 #[.string s] w (OutPost (5 + 14 * s.size) w) := by
  go_enter Tryd.func112, Tryd.ntmps112
  go_wp2
  go_loopw [3, 4] (fun o i wr => ∃ (k : Nat) (t : ByteArray), o = .string t ∧ i = .int .i64 k ∧ k ≤ s.size ∧ t.size ≤ 4 + 14 * k ∧ Below w.heap.size w wr) (fun o i wr => s.size - (intOf i).toNat)
  case atStart => exact ⟨0, _, rfl, rfl, by omega, (show 4 ≤ 4 + 14 * 0 by omega), Below.refl _ _⟩
  case round =>
    obtain ⟨k, t, rfl, rfl, hk, ht, hbel⟩ := hrel
    by_cases hlt : k < s.size
    · have h256 : (s[k].toNat : Int) < 256 := by have := s[k].toNat_lt; omega
      have HX := Lib.hid (fun w => l1Small_any s[k].toNat w (by have := s[k].toNat_lt; omega))
      have HZ := Lib.hid (smallL_size s[k].toNat (by have := s[k].toNat_lt; omega))
      by_cases hk0 : 0 < k
      all_goals
        go_wp2_with (go_at_call 113; refine (HX.out _).mono ?_; rintro e w1 ⟨r, rfl, hr, hb1⟩; have hrs : r.size ≤ 13 := (by show r.data.toList.length ≤ 13; rw [hr]; exact HZ.out); clear hr)
        exact ⟨⟨k + 1, _, rfl, by go_num, by omega, by simp only [ByteArray.size_append, sz1]; omega, hbel.trans (hb1.mono hbel.size)⟩, by simp [intOf]; omega⟩
    · go_wp2
      go_ret
      exact ⟨_, rfl, by rw [ByteArray.size_append]; show t.size + 1 ≤ _; omega, hbel⟩
end Go.Proofs.YtjpkmcaogekkdaaDoor.Wr
