/- Atoms put into the writer in the reference, walked. -/
import Derived.Test.YtjpkmcaogekkdaaDoorWrC
namespace Go.Proofs.YtjpkmcaogekkdaaDoor.Wr
open Go.RowKit Go.Proofs.YtjpkmcaogekkdaaDoor.Rm Go.Proofs.YtjpkmcaogekkdaaDoor.Nu Go.Proofs.YtjpkmcaogekkdaaDoor.Gr
set_option linter.unusedVariables false
set_option linter.unusedSimpArgs false

theorem Done.after {b : Nat} {nv : Value} {A M : List Int} {w w1 w2 : World} {e : Ending} (h : FrW b w w1) (k : Done b nv A M w1 e w2) : Done b nv A M w e w2 := by
  obtain ⟨cnt, out, ov, h1, h2, h3⟩ := k
  exact ⟨cnt, out, ov, h1, h2, h.trans h3⟩

set_option maxHeartbeats 4000000 in
set_option maxRecDepth 100000 in
theorem atom_any (w : World) (b : Nat) (nv : Value) (A M : List Int) (cnt : Int) (out : ByteArray) (ov : Bool) (k : Int) (s : ByteArray) (v : Value) (h : Wt w b nv A M cnt out ov) (hs : s.size ≤ 1000000) (h4 : k = 4 → 0 < s.size) :
    Calls Tryd.prog 94 #[.pointer (some ⟨b, 0, none⟩), .agg #[.int .i64 k, .string s, v]] w (Done b nv A M w) := by
  have hb := h.lt
  have BX := Blk.new w #[.int .i64 k, .string s, v] 58
  have hB0 := below1 w (.cells #[.int .i64 k, .string s, v] 58)
  have hWz := h.below hB0
  have HF := FrW.of_below hB0 hb
  have HPUT := Lib.hid (fun (w' : World) (t : ByteArray) (hw' : Below (w.alloc (.cells #[.int .i64 k, .string s, v] 58)).heap.size (w.alloc (.cells #[.int .i64 k, .string s, v] 58)) w') (ht : t.size ≤ 100000000) => put_any w' b nv A M cnt out ov t (hWz.below hw') ht)
  have HFZ := Lib.hid (fun (w' : World) (hw' : Below (w.alloc (.cells #[.int .i64 k, .string s, v] 58)).heap.size (w.alloc (.cells #[.int .i64 k, .string s, v] 58)) w') => HF.trans (FrW.of_below hw' hWz.lt))
  obtain ⟨av, mv, hBz, _⟩ := hWz
  have c1 := hBz.cell0 (o := 1) (v := .bool false) rfl
  have HR := Lib.hid (Below.refl (w.alloc (.cells #[.int .i64 k, .string s, v] 58)).heap.size (w.alloc (.cells #[.int .i64 k, .string s, v] 58)))
  by_cases h3 : k = 3
  · subst h3
    have HS := Lib.hid (fun w => l15String_any s w hs)
    go_enter Tryd.func94, Tryd.ntmps94
    go_wp2_with (first | (go_at_call 110; refine (HS.out _).mono ?_; rintro e w1 ⟨⟨t, rfl, ht⟩, rfl⟩) | (go_at_call 81; refine (HPUT.out _ _ HR.out ?_).mono ?_; omega; rintro e w1 hd; obtain ⟨cnt', out', ov', rfl, hw', hf'⟩ := hd))
    go_end0
    exact ⟨cnt', out', ov', rfl, hw', (HFZ.out _ HR.out).trans hf'⟩
  by_cases h4' : k = 4
  · subst h4'
    have HS := Lib.hid (fun w => l15Char_any s w hs (h4 rfl))
    go_enter Tryd.func94, Tryd.ntmps94
    go_wp2_with (first | (go_at_call 111; refine (HS.out _).mono ?_; rintro e w1 ⟨⟨t, rfl, ht⟩, rfl⟩) | (go_at_call 81; refine (HPUT.out _ _ HR.out ?_).mono ?_; omega; rintro e w1 hd; obtain ⟨cnt', out', ov', rfl, hw', hf'⟩ := hd))
    go_end0
    exact ⟨cnt', out', ov', rfl, hw', (HFZ.out _ HR.out).trans hf'⟩
  by_cases h5 : k = 5
  · subst h5
    have hz : ((⟨#[35]⟩ : ByteArray) ++ s).size ≤ 100000000 := by rw [ByteArray.size_append, sz1]; omega
    go_enter Tryd.func94, Tryd.ntmps94
    go_wp2_with (first | (go_at_call 81; refine (HPUT.out _ _ HR.out hz).mono ?_; rintro e w1 hd; obtain ⟨cnt', out', ov', rfl, hw', hf'⟩ := hd))
    go_end0
    exact ⟨cnt', out', ov', rfl, hw', (HFZ.out _ HR.out).trans hf'⟩
  by_cases h6 : k = 6
  · subst h6
    go_enter Tryd.func94, Tryd.ntmps94
    go_wp2_with (first | (go_at_call 81; refine (HPUT.out _ ⟨#[40, 41]⟩ HR.out (show 2 ≤ 100000000 by omega)).mono ?_; rintro e w1 hd; obtain ⟨cnt', out', ov', rfl, hw', hf'⟩ := hd))
    go_end0
    exact ⟨cnt', out', ov', rfl, hw', (HFZ.out _ HR.out).trans hf'⟩
  by_cases h9 : k = 9
  · subst h9
    have HS := Lib.hid (fun w => l15Raw_any s w hs)
    go_enter Tryd.func94, Tryd.ntmps94
    go_wp2_with (first | (go_at_call 112; refine (HS.out _).mono ?_; rintro e w1 ⟨t, rfl, ht, hb1⟩) | (go_at_call 81; refine (HPUT.out _ _ hb1 ?_).mono ?_; omega; rintro e w2 hd; obtain ⟨cnt', out', ov', rfl, hw', hf'⟩ := hd))
    go_end0
    exact ⟨cnt', out', ov', rfl, hw', (HFZ.out _ hb1).trans hf'⟩
  · have e3 : (k == 3) = false := by rw [beq_eq_false_iff_ne]; exact h3
    have e4 : (k == 4) = false := by rw [beq_eq_false_iff_ne]; exact h4'
    have e5 : (k == 5) = false := by rw [beq_eq_false_iff_ne]; exact h5
    have e6 : (k == 6) = false := by rw [beq_eq_false_iff_ne]; exact h6
    have e9 : (k == 9) = false := by rw [beq_eq_false_iff_ne]; exact h9
    go_enter Tryd.func94, Tryd.ntmps94
    go_wp2_with (first | (go_at_call 81; refine (HPUT.out _ _ HR.out ?_).mono ?_; omega; rintro e w1 hd; obtain ⟨cnt', out', ov', rfl, hw', hf'⟩ := hd))
    go_end0
    exact ⟨cnt', out', ov', rfl, hw', (HFZ.out _ HR.out).trans hf'⟩
end Go.Proofs.YtjpkmcaogekkdaaDoor.Wr
