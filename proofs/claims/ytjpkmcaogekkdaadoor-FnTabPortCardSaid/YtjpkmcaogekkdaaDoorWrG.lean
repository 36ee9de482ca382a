/- The way into a node in the reference's writer, walked. -/
import Derived.Test.YtjpkmcaogekkdaaDoorWrF
import Derived.Deep.DeepCutAuto
import Derived.Deep.RegionLaw
namespace Go.Proofs.YtjpkmcaogekkdaaDoor.Wr
open Go.RowKit Go.Proofs.YtjpkmcaogekkdaaDoor.Rm Go.Proofs.YtjpkmcaogekkdaaDoor.Nu Go.Proofs.YtjpkmcaogekkdaaDoor.Gr
set_option linter.unusedVariables false
set_option linter.unusedSimpArgs false

/-- nodes that lie below block b, their parts in range -/
def NdW (w : World) (b : Nat) (nv : Value) (ns : List Nd) : Prop :=
  ∃ nb no c, nv = .slice (some ⟨nb, no, none⟩) ns.length c ∧ nb < b ∧ ns.length ≤ 80 ∧ (∀ d ∈ ns, ∀ k ∈ d.kids, inR ns.length k = true) ∧
    ∀ i d, ns[i]? = some d → w.cell? ⟨nb, no + i * 3, none⟩ = some (.int .i64 d.sort) ∧ w.cell? ⟨nb, no + i * 3 + 1, none⟩ = some (.string d.text) ∧ ∃ kv, w.cell? ⟨nb, no + i * 3 + 2, none⟩ = some kv ∧ Ints w (· < b) kv d.kids
theorem NdW.below {w w' : World} {b : Nat} {nv : Value} {ns : List Nd} (h : NdW w b nv ns) (hb : Below b w w') : NdW w' b nv ns := by
  obtain ⟨nb, no, c, h1, h2, h3, h4, h5⟩ := h
  refine ⟨nb, no, c, h1, h2, h3, h4, fun i d hi => ?_⟩
  obtain ⟨k1, k2, kv, k3, k4⟩ := h5 i d hi
  exact ⟨(hb.cell (p := ⟨nb, no + i * 3, none⟩) h2).trans k1, (hb.cell (p := ⟨nb, no + i * 3 + 1, none⟩) h2).trans k2, kv, (hb.cell (p := ⟨nb, no + i * 3 + 2, none⟩) h2).trans k3, k4.same fun g hg => hb.block g hg⟩

/-- l15Around on the writer's own nodes and ways -/
theorem around_wt (w : World) (b : Nat) (nv av mv : Value) (v0 v1 v4 v5 v6 : Value) (ns : List Nd) (A : List Int) (x : Int) (hN : NdW w b nv ns) (hb : b < w.heap.size) (hA : OwnRow w (b + 1) av A) (hA1 : A.length ≤ 1000) (hx : inR ns.length x = true) :
    Calls Tryd.prog 114 #[nv, .int .i64 x, av] w (ABool w) := by
  obtain ⟨nb, no, c, rfl, h2, h3, h4, h5⟩ := hN
  obtain ⟨aa, ac, rfl, ha⟩ := hA.shape
  refine around_any w (· < b) nb no c _ aa ac ns A x (by omega) (fun g hg => by omega) rfl (by omega) hx (fun i d hi => ?_) h4 hA1 (fun hne => ?_)
  · obtain ⟨k1, k2, kv, k3, k4⟩ := h5 i d hi
    exact ⟨kv, k3, k4⟩
  · obtain ⟨g, h6, _, h7, h8⟩ := ha hne
    exact ⟨g, h6, h7, h8⟩

def EnterPost (b : Nat) (nv : Value) (A M : List Int) (x : Int) (w : World) (e : Ending) (w' : World) : Prop :=
  ∃ m cnt out ov, e = .returned (.tuple #[]) ∧ Wt w' b nv (A ++ [x]) (M ++ [m]) cnt out ov ∧ FrW b w w'

set_option maxHeartbeats 4000000 in
set_option maxRecDepth 100000 in
theorem enter_any (w : World) (b : Nat) (nv : Value) (ns : List Nd) (A M : List Int) (x : Int) (cnt : Int) (out : ByteArray) (ov : Bool) (h : Wt w b nv A M cnt out ov) (hN : NdW w b nv ns) (hx : inR ns.length x = true) (hlen : A.length < 1000) :
    Calls Tryd.prog 96 #[.pointer (some ⟨b, 0, none⟩), .int .i64 x] w (EnterPost b nv A M x w) := by
  have hb := h.lt
  have HW := Lib.hid h
  obtain ⟨av, mv, hB, hA, hM, hne, hl, ho, hc, hm, hA1⟩ := h
  have HAR := Lib.hid (around_wt w.drew b nv av mv nv nv nv nv nv ns A x (hN.below (Below.refl _ _).drew) hb (OwnRow.carry hA fun g _ => rfl) hA1 hx)
  obtain ⟨aa, ac, rfl, _⟩ := hA.shape
  obtain ⟨nb, no, nc, rfl, _⟩ := hN
  have c0 := hB.drew.cell0 (o := 0) (v := .slice (some ⟨nb, no, none⟩) ns.length nc) rfl
  have c2 := hB.drew.cell0 (o := 2) (v := .slice aa A.length ac) rfl
  go_enter Tryd.func96, Tryd.ntmps96
  go_upto_region 0 with fail
  go_cut [4] (fun v wc => ∃ around : Bool, v = .bool around ∧ Wt wc b (.slice (some ⟨nb, no, none⟩) ns.length nc) A M cnt out ov ∧ FrW b w wc)
  case first =>
    go_region_with (go_at_call 114; refine HAR.out.mono ?_; rintro e w1 ⟨around, rfl, hb1⟩; dsimp only)
    all_goals
      go_wp2_with fail
      go_meet
      case rel => exact ⟨around, rfl, HW.out.below ((Below.refl _ w).drew.trans hb1), FrW.of_below ((Below.refl _ w).drew.trans hb1) hb⟩
  case rest =>
    obtain ⟨around, rfl, hW1, hF1⟩ := hcut
    clear c0 c2 hB hA hM hne HAR
    go_upto_if 15 with fail
    go_cut [] (fun wd => ∃ cnt out ov, Wt wd b (.slice (some ⟨nb, no, none⟩) ns.length nc) A M cnt out ov ∧ FrW b w wd)
    case first =>
      have HW1 := Lib.hid hW1
      obtain ⟨av, mv, hB, _, _, _, _, _, hc1, _⟩ := hW1
      have c4 := hB.cell0 (o := 4) (v := .int .i64 cnt) rfl
      have hwb := hB.lt
      have HS := Lib.hid (fun w => l1Small_all cnt w hc1)
      cases around
      · go_wp2_with fail
        go_meet
        case rel => exact ⟨cnt, out, ov, HW1.out, hF1⟩
      · go_wp2_with (first | (go_at_call 113; refine (HS.out _).mono ?_; rintro e w2 ⟨r, rfl, hr, hb2⟩; have HW2 := Lib.hid (HW1.out.below hb2); have HF2 := Lib.hid (FrW.of_below hb2 hwb)) | (go_at_call 81; refine (put_any _ _ _ _ _ _ _ _ _ HW2.out ?_).mono ?_; (simp only [ByteArray.size_append, sz1]; omega); rintro e w3 hd; obtain ⟨cnt', out', ov', rfl, hw', hf'⟩ := hd))
        go_meet
        case rel => exact ⟨cnt', out', ov', hw', (hF1.trans HF2.out).trans hf'⟩
    case rest =>
      clear hW1 hF1
      obtain ⟨cnt1, out1, ov1, hW1, hF1⟩ := hcut
      obtain ⟨av, mv, hB, hA, hM, hne, hl1, ho1, hc1, hm1, hA11⟩ := hW1
      have hbw := hB.lt
      obtain ⟨g2, cap2, w6, happ, hown6, hgr6, hgo6, hgl6⟩ := append_int wc (b + 1) av A x hA hbw (by omega)
      have hbne : av.ownBlock ≠ some b := fun e => by have := hA.above b e; omega
      have hB6 : Blk w6 b _ _ := (hgr6.block b hbw hbne.symm).trans hB
      have hM6 : OwnRow w6 (b + 1) mv M := OwnRow.carry hM fun g hg => hgr6.block g (World.ownsRow.lt hM g hg).2 (fun e => hne g e.symm hg)
      have hs6 := hgr6.size
      have c2 := hB.cell0 (o := 2) (v := av) rfl
      have d2 := hB6.cell0 (o := 2) (v := av) rfl
      have f2 := hB6.free 2
      have hb6 := hB6.lt
      have hsh := hA.shape
      have H6 := Lib.hid hown6
      have HB6 := Lib.hid hB6
      have HM6 := Lib.hid hM6
      have HGR := Lib.hid hgr6
      have HGO := Lib.hid hgo6
      have HB := Lib.hid hB
      have HA := Lib.hid hA
      have HM := Lib.hid hM
      have HNE := Lib.hid hne
      clear hB hA hM hne hown6 hgr6 hgo6 hB6 hM6 hbne
      obtain ⟨aa', ac', rfl, _⟩ := hsh
      have HL := Lib.hid hl1
      clear hl1 hl
      go_wp2_with (at_builtin; refine wpList_append_run rfl _ _ 32 rfl rfl rfl happ ?_)
      have hB7 : Blk (w6.setCell ⟨b, 2, none⟩ (.slice (some ⟨g2, 0, none⟩) (A.length + 1) cap2)) b #[.slice (some ⟨nb, no, none⟩) ns.length nc, .bool false, .slice (some ⟨g2, 0, none⟩) (A.length + 1) cap2, mv, .int .i64 cnt1, .string out1, .bool ov1] 124 := HB6.out.set 2 _
      have hA7 : OwnRow (w6.setCell ⟨b, 2, none⟩ (.slice (some ⟨g2, 0, none⟩) (A.length + 1) cap2)) (b + 1) (.slice (some ⟨g2, 0, none⟩) (A.length + 1) cap2) (A ++ [x]) := OwnRow.farB H6.out 2 _
      have hM7 : OwnRow (w6.setCell ⟨b, 2, none⟩ (.slice (some ⟨g2, 0, none⟩) (A.length + 1) cap2)) (b + 1) mv M := OwnRow.farB HM6.out 2 _
      have hF7 : FrW b wc (w6.setCell ⟨b, 2, none⟩ (.slice (some ⟨g2, 0, none⟩) (A.length + 1) cap2)) :=
        FrW.of_blk HB.out hB7 HGR.out.os HGR.out.tape HGR.out.output (by simpa using hs6) (fun g hg hne' h1 _ => (Below.heap_setCell _ _ _ _ hne').trans (HGR.out.block g hg h1.symm))
          (fun g hg e => by
            have e' : g2 = g := by injection e
            rcases HGO.out with h1 | h1
            · rw [← e']; exact h1
            · omega) (fun g _ h => h)
      have hne7 : ∀ g, (Value.slice (some ⟨g2, 0, none⟩) (A.length + 1) cap2).ownBlock = some g → mv.ownBlock ≠ some g := fun g e hg => by
        have e' : g2 = g := by injection e
        rcases HGO.out with h1 | h1
        · exact HNE.out g (by rw [← e']; exact h1) hg
        · have := (World.ownsRow.lt HM.out g hg).2
          omega
      have hg7 : g2 < (w6.setCell ⟨b, 2, none⟩ (.slice (some ⟨g2, 0, none⟩) (A.length + 1) cap2)).heap.size := by simpa using hgl6
      clear c2 d2 f2 happ
      generalize (w6.setCell ⟨b, 2, none⟩ (.slice (some ⟨g2, 0, none⟩) (A.length + 1) cap2)) = w7 at *
      obtain ⟨ma, mc, rfl, _⟩ := hM7.shape
      have hb7 := hB7.lt
      obtain ⟨g3, cap3, w8, happ2, hown8, hgr8, hgo8, hgl8⟩ := append_int w7.drew (b + 1) _ M cnt1 (OwnRow.carry hM7 fun g _ => rfl) hb7 (by have := HL.out; omega)
      have c3 := hB7.drew.cell0 (o := 3) (v := .slice ma M.length mc) rfl
      have c4 := hB7.drew.cell0 (o := 4) (v := .int .i64 cnt1) rfl
      have c3w := hB7.cell0 (o := 3) (v := .slice ma M.length mc) rfl
      have c4w := hB7.cell0 (o := 4) (v := .int .i64 cnt1) rfl
      have hbne : (Value.slice ma M.length mc).ownBlock ≠ some b := fun e => by have := hM7.above b e; omega
      have hB8 : Blk w8 b _ _ := (hgr8.block b hb7 hbne.symm).trans hB7.drew
      have f3 := hB8.free 3
      have d3 := hB8.cell0 (o := 3) (v := .slice ma M.length mc) rfl
      have HAPP := Lib.hid happ2
      have H8 := Lib.hid hown8
      have HB8 := Lib.hid hB8
      have HGR8 := Lib.hid hgr8
      have HGO8 := Lib.hid hgo8
      clear happ2 hown8 hB8 hgr8 hgo8
      have HB9 : Hid (Blk (w8.setCell ⟨b, 3, none⟩ (.slice (some ⟨g3, 0, none⟩) (M.length + 1) cap3)) b #[.slice (some ⟨nb, no, none⟩) ns.length nc, .bool false, .slice (some ⟨g2, 0, none⟩) (A.length + 1) cap2, .slice (some ⟨g3, 0, none⟩) (M.length + 1) cap3, .int .i64 cnt1, .string out1, .bool ov1] 124) := HB8.out.set 3 _
      have HM9 : Hid (OwnRow (w8.setCell ⟨b, 3, none⟩ (.slice (some ⟨g3, 0, none⟩) (M.length + 1) cap3)) (b + 1) (.slice (some ⟨g3, 0, none⟩) (M.length + 1) cap3) (M ++ [cnt1])) := OwnRow.farB H8.out 3 _
      have HA9 : Hid (OwnRow (w8.setCell ⟨b, 3, none⟩ (.slice (some ⟨g3, 0, none⟩) (M.length + 1) cap3)) (b + 1) (.slice (some ⟨g2, 0, none⟩) (A.length + 1) cap2) (A ++ [x])) :=
        OwnRow.farB (OwnRow.carry hA7 fun g hg => HGR8.out.block g (World.ownsRow.lt hA7 g hg).2 (fun e => hne7 g hg e.symm)) 3 _
      have HN9 : Hid (∀ g, (Value.slice (some ⟨g2, 0, none⟩) (A.length + 1) cap2).ownBlock = some g → (Value.slice (some ⟨g3, 0, none⟩) (M.length + 1) cap3).ownBlock ≠ some g) := fun g e hg => by
        have e' : g2 = g := by injection e
        have e3 : g3 = g := by injection hg
        rcases HGO8.out with h1 | h1
        · exact hne7 g e (by rw [← e3]; exact h1)
        · have h2 : w7.heap.size ≤ g3 := h1
          omega
      have HF9 : Hid (FrW b wc (w8.setCell ⟨b, 3, none⟩ (.slice (some ⟨g3, 0, none⟩) (M.length + 1) cap3))) :=
        hF7.trans (FrW.of_blk hB7 HB9.out HGR8.out.os HGR8.out.tape HGR8.out.output (by have := HGR8.out.size; simpa using this) (fun g hg hne' _ h1 => (Below.heap_setCell _ _ _ _ hne').trans (HGR8.out.block g hg h1.symm))
          (fun g _ h => h) (fun g hg e => by
            have e' : g3 = g := by injection e
            rcases HGO8.out with h1 | h1
            · rw [← e']; exact h1
            · have h2 : w7.heap.size ≤ g3 := h1
              omega))
      have HMI : Hid (∀ m ∈ M ++ [cnt1], I64 m) := fun m hm' => by
        rcases List.mem_append.1 hm' with h1 | h1
        · exact hm1 m h1
        · rw [List.mem_singleton.1 h1]; exact hc1
      have e4 := HB9.out.cell0 (o := 4) (v := .int .i64 cnt1) rfl
      have ef4 := HB9.out.free 4
      have hb9 := HB9.out.lt
      have hlA : Hid ((A ++ [x]).length ≤ 1000) := by simp [Hid]; omega
      have hlM : Hid ((M ++ [cnt1]).length = (A ++ [x]).length) := by have := HL.out; simp [Hid]; exact this
      go_upto_region 4 with fail
      go_region_law (simp only [Region.wanted, ↓reduceIte]; (refine wp_append_run (v := .slice ma M.length mc) (xv := .slice (some ⟨w7.heap.size, 0, none⟩) 1 1) (v' := .slice (some ⟨g3, 0, none⟩) (M.length + 1) cap3) (w' := w8) (.tmp 39) (.tmp 44) 32 ?_ ?_ ?_ ?_ ?_; rfl; rfl; rfl; exact HAPP.out))
      all_goals
        generalize (w8.setCell ⟨b, 3, none⟩ (.slice (some ⟨g3, 0, none⟩) (M.length + 1) cap3)) = w9 at *
        cases around
        · go_wp2
          go_end0
          exact ⟨cnt1, cnt1, out1, ov1, rfl, ⟨_, _, HB9.out, HA9.out, HM9.out, HN9.out, hlM.out, ho1, hc1, HMI.out, hlA.out⟩, hF1.trans HF9.out⟩
        · go_wp2
          go_end0
          exact ⟨cnt1, _, out1, ov1, rfl, ⟨_, _, HB9.out.set 4 _, OwnRow.farB HA9.out 4 _, OwnRow.farB HM9.out 4 _, HN9.out, hlM.out, ho1, (by unfold I64 wrap64; omega), HMI.out, hlA.out⟩, (hF1.trans HF9.out).trans (FrW.store HB9.out 4 _ (by omega) (by omega))⟩
end Go.Proofs.YtjpkmcaogekkdaaDoor.Wr
