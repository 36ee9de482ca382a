/- A row written in the reference's writer, walked, where its nodes are. -/
import Derived.Test.YtjpkmcaogekkdaaDoorWrG
namespace Go.Proofs.YtjpkmcaogekkdaaDoor.Wr
open Go.RowKit Go.Proofs.YtjpkmcaogekkdaaDoor.Rm Go.Proofs.YtjpkmcaogekkdaaDoor.Nu Go.Proofs.YtjpkmcaogekkdaaDoor.Gr
set_option linter.unusedVariables false
set_option linter.unusedSimpArgs false

/-- the writing of a node under the ways A comes back -/
def NodeAt (ns : List Nd) (b : Nat) (nv : Value) (A M : List Int) : Prop :=
  ∀ (w : World) (cnt : Int) (out : ByteArray) (ov : Bool) (x : Int), Wt w b nv A M cnt out ov → NdW w b nv ns → inR ns.length x = true → Calls Tryd.prog 82 #[.pointer (some ⟨b, 0, none⟩), .int .i64 x] w (Done b nv A M w)

theorem FrW.blk {w w' : World} {b g : Nat} {C : Array Value} {t : TypeId} (h : FrW b w w') (hB : Blk w g C t) (hne : g ≠ b) (ho : ¬ Own w b g) : Blk w' g C t ∧ ¬ Own w' b g :=
  ⟨(h.keep g hB.lt hne ho).1.trans hB, (h.keep g hB.lt hne ho).2⟩
/-- a block that is new is none of the writer's -/
theorem own_lt {w : World} {b g : Nat} {nv : Value} {A M : List Int} {cnt : Int} {out : ByteArray} {ov : Bool} (h : Wt w b nv A M cnt out ov) (ho : Own w b g) : g < w.heap.size := by
  obtain ⟨av, mv, hB, hA, hM, _⟩ := h
  rcases (own_iff hB).1 ho with h1 | h1
  · exact (World.ownsRow.lt hA g h1).2
  · exact (World.ownsRow.lt hM g h1).2
theorem own_new {w : World} {b : Nat} {nv : Value} {A M : List Int} {cnt : Int} {out : ByteArray} {ov : Bool} (h : Wt w b nv A M cnt out ov) (o : Obj) : ¬ Own (w.alloc o) b w.heap.size := fun ho => by
  have h1 := (Own.same (w := w) (w' := w.alloc o) (b := b) (g := w.heap.size) (Below.heap_alloc w o b h.lt)).1 ho
  have := own_lt h h1
  omega

set_option maxHeartbeats 4000000 in
set_option maxRecDepth 100000 in
theorem row_any (ns : List Nd) (b : Nat) (nv : Value) (A M : List Int) (HN : NodeAt ns b nv A M) (w : World) (cnt : Int) (out : ByteArray) (ov : Bool) (h : Wt w b nv A M cnt out ov) (hnd : NdW w b nv ns) (k : Int) (s : ByteArray) (kv : Value) (ks : List Int) (hkv : Ints w (· < b) kv ks) (hk : ∀ x ∈ ks, inR ns.length x = true) :
    Calls Tryd.prog 97 #[.pointer (some ⟨b, 0, none⟩), .agg #[.int .i64 k, .string s, kv]] w (Done b nv A M w) := by
  have hb := h.lt
  obtain ⟨ka, kc, rfl⟩ := hkv.shape
  have BX := Blk.new w #[.int .i64 k, .string s, .slice ka ks.length kc] 58
  have hB0 := below1 w (.cells #[.int .i64 k, .string s, .slice ka ks.length kc] 58)
  have hW0 := h.below hB0
  have hF0 := FrW.of_below hB0 hb
  have hno := own_new h (.cells #[.int .i64 k, .string s, .slice ka ks.length kc] 58)
  have hbne : w.heap.size ≠ b := by omega
  have HNN := Lib.hid HN
  clear HN
  have HP1 := Lib.hid (put_any _ b nv A M cnt out ov ⟨#[35, 40]⟩ hW0 (show 2 ≤ 100000000 by omega))
  go_enter Tryd.func97, Tryd.ntmps97
  go_wp2_with (go_at_call 81; refine HP1.out.mono ?_; rintro e w3 hd; obtain ⟨cnt', out', ov', rfl, hw', hf'⟩ := hd)
  have h3 := hf'.blk BX hbne hno
  have hF3 := hF0.trans hf'
  go_loopw [4] (fun i wr => ∃ (j : Nat) (cnt : Int) (out : ByteArray) (ov : Bool), i = .int .i64 j ∧ j ≤ ks.length ∧ Wt wr b nv A M cnt out ov ∧ FrW b w wr ∧ Blk wr w.heap.size #[.int .i64 k, .string s, .slice ka ks.length kc] 58 ∧ ¬ Own wr b w.heap.size) (fun i wr => ks.length - (intOf i).toNat)
  case atStart => exact ⟨0, cnt', out', ov', rfl, by omega, hw', hF3, h3.1, h3.2⟩
  case round =>
    clear h3 hF3 hw' hf' hno hF0 hW0 hB0 BX HP1
    obtain ⟨j, cnt1, out1, ov1, rfl, hj, hW1, hF1, hB1, ho1⟩ := hrel
    have hj0 : (0 : Int) ≤ j := by omega
    have hkl := hkv.1
    have c2 := hB1.cell0 (o := 2) (v := .slice ka ks.length kc) rfl
    by_cases hlt : j < ks.length
    · obtain ⟨x, hx⟩ := getSome ks j hlt
      obtain ⟨kb, ko, rfl, hkb, hxc⟩ : ∃ kb ko, ka = some ⟨kb, ko, none⟩ ∧ kb < b ∧ w.cell? ⟨kb, ko + j, none⟩ = some (.int .i64 x) := by
        obtain ⟨_, ⟨b', o', c', h1, h2, h3⟩ | ⟨h1, _⟩⟩ := hkv
        · injection h1 with h4 h5 h6
          exact ⟨b', o', h4, h2, h3 j x hx⟩
        · rw [h1] at hlt
          simp at hlt
      have hxi := hk x (List.mem_of_getElem? hx)
      have hbw := hF1.below h
      have cx := (hbw.cell (p := ⟨kb, ko + j, none⟩) hkb).trans hxc
      have HW := Lib.hid h
      have HND := Lib.hid hnd
      by_cases hj1 : 0 < j
      · have HP2 := Lib.hid (put_any _ b nv A M cnt1 out1 ov1 ⟨#[32]⟩ hW1 (show 1 ≤ 100000000 by omega))
        go_wp2_with (first | (go_at_call 81; refine HP2.out.mono ?_; rintro e w3 hd; obtain ⟨cnt2, out2, ov2, rfl, hW2, hf2⟩ := hd; have hF2 := hF1.trans hf2; have hB2 := hf2.blk hB1 hbne ho1; have d2 := hB2.1.cell0 (o := 2) (v := .slice (some ⟨kb, ko, none⟩) ks.length kc) rfl; have dx := ((hF2.below h).cell (p := ⟨kb, ko + j, none⟩) hkb).trans hxc) | (go_at_call 82; refine (HNN.out _ _ _ _ _ hW2 (HND.out.below (hF2.below HW.out)) hxi).mono ?_; rintro e w4 hd; obtain ⟨cnt3, out3, ov3, rfl, hW3, hf3⟩ := hd))
        have hB3 := hf3.blk hB2.1 hbne hB2.2
        exact ⟨⟨j + 1, cnt3, out3, ov3, by go_num, by omega, hW3, hF2.trans hf3, hB3.1, hB3.2⟩, by simp [intOf]; omega⟩
      · go_wp2_with (go_at_call 82; refine (HNN.out _ _ _ _ _ hW1 (HND.out.below (hF1.below HW.out)) hxi).mono ?_; rintro e w4 hd; obtain ⟨cnt3, out3, ov3, rfl, hW3, hf3⟩ := hd)
        have hB3 := hf3.blk hB1 hbne ho1
        exact ⟨⟨j + 1, cnt3, out3, ov3, by go_num, by omega, hW3, hF1.trans hf3, hB3.1, hB3.2⟩, by simp [intOf]; omega⟩
    · have HP2 := Lib.hid (put_any _ b nv A M cnt1 out1 ov1 ⟨#[41]⟩ hW1 (show 1 ≤ 100000000 by omega))
      go_wp2_with (go_at_call 81; refine HP2.out.mono ?_; rintro e w3 hd; obtain ⟨cnt', out', ov', rfl, hw', hf'⟩ := hd)
      go_end0
      exact ⟨cnt', out', ov', rfl, hw', hF1.trans hf'⟩
end Go.Proofs.YtjpkmcaogekkdaaDoor.Wr
