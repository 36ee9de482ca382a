/- Texts of nodes checked in the reference, walked. -/
import Derived.Test.YtjpkmcaogekkdaaDoorNuK
import Derived.Test.YtjpkmcaogekkdaaDoorCharB
namespace Go.Proofs.YtjpkmcaogekkdaaDoor.Gr
open Go.RowKit Go.Proofs.YtjpkmcaogekkdaaDoor.Rm Go.Proofs.YtjpkmcaogekkdaaDoor.Nu Go.Proofs.YtjpkmcaogekkdaaDoor.Port
set_option linter.unusedVariables false
set_option linter.unusedSimpArgs false

def szV : Value → Nat
  | .string s => s.size
  | _ => 0
/-- some bool comes back -/
def ABool (w : World) (e : Ending) (w' : World) : Prop := ∃ b : Bool, e = .returned (.bool b) ∧ Below w.heap.size w w'

set_option maxRecDepth 100000 in
theorem size_walk0 (s : ByteArray) (v : Value) (w w1 : World) (hs : ((s.size : Int) == 0) = true)
    (hconv : (convert 9 78 (.string s)).run Tryd.prog w = .ok v w1) :
    Calls Tryd.prog 22 #[.string s] w fun e w' => e = .returned (.int .i64 0) ∧ w1 = w' := by
  go_enter Tryd.func22, Tryd.ntmps22
  go_wp2
  go_ret
  exact ⟨rfl, rfl⟩
def szAll (s : ByteArray) : Nat := if s.size = 0 then 0 else szOf s
theorem size_all (s : ByteArray) (w : World) (h2 : s.size ≤ 70368744177664) :
    Calls Tryd.prog 22 #[.string s] w fun e w' => e = .returned (.int .i64 (szAll s)) ∧ Below w.heap.size w w' := by
  unfold szAll
  by_cases hs : s.size = 0
  · rw [if_pos hs]
    have hcv := run_runes_of_string (P := Tryd.prog) w 9 78 21 s Tryd.underlying9 Tryd.underlying78 Tryd.underlying21 (by have := size_runesFrom s s.size 0 #[]; simp at this; omega)
    refine (size_walk0 s _ w _ (by rw [hs]; rfl) hcv).mono ?_
    rintro e w' ⟨rfl, rfl⟩
    exact ⟨rfl, ((Below.refl _ _).drew).alloc (Nat.le_refl _) _⟩
  · rw [if_neg hs]
    exact size_any s w (by omega) h2
theorem szAll_le (s : ByteArray) : szAll s ≤ s.size := by
  unfold szAll
  split
  · omega
  · rename_i hs
    have h1 := charLen_pos s (by omega)
    have h2 := charLen_sz s (by omega)
    split at h2
    · omega
    · omega

set_option maxHeartbeats 1000000 in
set_option maxRecDepth 100000 in
theorem l11Runes_any (s : ByteArray) (w : World) (hs : s.size ≤ 1000000) : Calls Tryd.prog 109 #[.string s] w (ABool w) := by
  go_enter Tryd.func109, Tryd.ntmps109
  go_wp2
  go_loopw [0] (fun v wr => ∃ t : ByteArray, v = .string t ∧ t.size ≤ s.size ∧ Below w.heap.size w wr) (fun v wr => szV v)
  case atStart => exact ⟨s, rfl, Nat.le_refl _, Below.refl _ _⟩
  case round =>
    obtain ⟨t, rfl, ht, hbel⟩ := hrel
    have hle := szAll_le t
    by_cases h0 : 0 < t.size
    · have HS := Lib.hid (fun w => size_all t w (by omega))
      by_cases hz : szAll t = 0
      · rw [hz] at HS
        go_wp2_with (go_at_call 22; refine (HS.out _).mono ?_; rintro e w1 ⟨rfl, hb1⟩)
        go_ret
        exact ⟨false, rfl, below_then hbel hb1 hbel.size⟩
      · have hb : ((szAll t : Int) == 0) = false := by rw [beq_eq_false_iff_ne]; omega
        have hz0 : (0 : Int) ≤ szAll t := by omega
        go_wp2_with (go_at_call 22; refine (HS.out _).mono ?_; rintro e w1 ⟨rfl, hb1⟩)
        refine ⟨⟨_, rfl, ?_, below_then hbel hb1 hbel.size⟩, ?_⟩
        · have := ext_size t (szAll t) t.size
          omega
        · show (t.extract (szAll t) t.size).size < t.size
          rw [ByteArray.size_extract]
          omega
    · go_wp2
      go_ret
      exact ⟨true, rfl, hbel⟩

set_option maxRecDepth 100000 in
theorem l11Blank_any (b : UInt8) (w : World) : Calls Tryd.prog 130 #[.int .u8 (b.toNat : Int)] w fun e w' => BoolP e (fun _ => True) ∧ w = w' := by
  go_enter Tryd.func130, Tryd.ntmps130
  go_wp2
  all_goals go_ret
  all_goals exact ⟨⟨_, rfl, trivial⟩, rfl⟩
set_option maxRecDepth 100000 in
theorem l11Ends_any (b : UInt8) (w : World) : Calls Tryd.prog 123 #[.int .u8 (b.toNat : Int)] w fun e w' => BoolP e (fun _ => True) ∧ w = w' := by
  go_enter Tryd.func123, Tryd.ntmps123
  go_wp2_with (go_at_call 130; refine (l11Blank_any _ _).mono ?_; rintro e w' ⟨⟨x, rfl, _⟩, rfl⟩)
  all_goals go_ret
  all_goals exact ⟨⟨_, rfl, trivial⟩, rfl⟩
end Go.Proofs.YtjpkmcaogekkdaaDoor.Gr
