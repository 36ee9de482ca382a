/- The reference's ReadPrint, walked: some text, so long at most, comes back. -/
import Derived.Test.YtjpkmcaogekkdaaDoorWrJ
import Derived.Test.YtjpkmcaogekkdaaDoorMnP
import Derived.Test.YtjpkmcaogekkdaaDoorRmL2
namespace Go.Proofs.YtjpkmcaogekkdaaDoor.Wr
open Go.RowKit Go.Proofs.YtjpkmcaogekkdaaDoor.Rm Go.Proofs.YtjpkmcaogekkdaaDoor.Nu Go.Proofs.YtjpkmcaogekkdaaDoor.Gr
set_option linter.unusedVariables false
set_option linter.unusedSimpArgs false

/-- some text of at most 4000 bytes, some answer -/
def TextPost (w : World) (e : Ending) (w' : World) : Prop := ∃ (s : ByteArray) (ok : Bool), e = .returned (.tuple #[.string s, .bool ok]) ∧ s.size ≤ 4000 ∧ Below w.heap.size w w'

/-- the specification's data, new, laid as the writer's nodes -/
theorem ndw_of {w : World} {P : Nat → Prop} {nv : Value} {ns : List Nd} (h : Nodes w P nv ns) (hne : ns ≠ []) {b : Nat} (hP : ∀ g, P g → g < b) (h80 : ns.length ≤ 80) (hk : ∀ d ∈ ns, kidsOk ns.length d = true) : NdW w b nv ns := by
  obtain ⟨_, ⟨nb, no, c, rfl, hPb, hc⟩ | ⟨h0, _⟩⟩ := h
  · refine ⟨nb, no, c, rfl, hP nb hPb, h80, fun d hd k hkd => ?_, fun i d hi => ?_⟩
    · have h1 := hk d hd
      simp only [kidsOk, Bool.and_eq_true, List.all_eq_true] at h1
      exact h1.2 k hkd
    · obtain ⟨h1, h2, _, kv, h3, h4⟩ := hc i d hi
      exact ⟨h1, h2, kv, h3, h4.weaken hP⟩
  · exact absurd h0 hne

theorem specMin_any (w : World) (P : Nat → Prop) (nv rv : Value) (ns : List Nd) (rs : List Int) (hne : ns ≠ []) (hnv : Nodes w P nv ns) (hrv : Ints w P rv rs) (hP : ∀ b, P b → b < w.heap.size) :
    Calls Tryd.prog 12 #[.agg #[nv, rv]] w (SpecPost ns rs w) := by
  have hnv' := hnv
  obtain ⟨h1, h2⟩ := hnv
  obtain ⟨k1, k2⟩ := hrv
  rcases h2 with ⟨b, o, c, rfl, hPb, hc⟩ | ⟨rfl, _⟩
  · rcases k2 with ⟨b', o', c', rfl, hPb', hc'⟩ | ⟨rfl, a, c', rfl⟩
    · exact specMin_all w P b o c c' _ _ _ ns rs (hP b hPb) hP rfl rfl h1 k1 hc (fun i x hi => ⟨b', o', rfl, hP b' hPb', hc' i x hi⟩) hnv'
    · exact specMin_all w P b o c c' _ 0 a ns [] (hP b hPb) hP rfl rfl h1 (by omega) hc (fun i x hi => by simp at hi) hnv'
  · exact absurd rfl hne

theorem Nodes.shape {w : World} {P : Nat → Prop} {v : Value} {ns : List Nd} (h : Nodes w P v ns) : ∃ a c, v = .slice a ns.length c := by
  obtain ⟨_, ⟨b, o, c, rfl, _⟩ | ⟨rfl, a, c, rfl⟩⟩ := h
  · exact ⟨_, _, rfl⟩
  · exact ⟨_, _, rfl⟩

theorem Wt.zero {w : World} {b : Nat} {nv : Value} {A M : List Int} {cnt : Int} {out : ByteArray} {ov : Bool} (h : Wt w b nv A M cnt out ov) :
    Wt (w.setCell ⟨b, 4, none⟩ (.int .i64 0)) b nv A M 0 out ov ∧ FrW b w (w.setCell ⟨b, 4, none⟩ (.int .i64 0)) ∧ w.frozen? ⟨b, 4, none⟩ = false ∧ w.cell? ⟨b, 4, none⟩ = some (.int .i64 cnt) := by
  obtain ⟨av, mv, hB, hA, hM, hne, hl, ho, hc, hm, hA1⟩ := h
  exact ⟨⟨av, mv, hB.set 4 _, OwnRow.farB hA 4 _, OwnRow.farB hM 4 _, hne, hl, ho, ⟨by decide, by decide⟩, hm, hA1⟩, FrW.store hB 4 _ (by omega) (by omega), hB.free 4, hB.cell0 rfl⟩

def ReadPost (ns : List Nd) (rs : List Int) (w : World) (e : Ending) (w' : World) : Prop := ∃ nv rv, e = .returned (.agg #[nv, rv]) ∧ Below w.heap.size w w' ∧ Nodes w' (fun b => w.heap.size ≤ b ∧ b < w'.heap.size) nv (specNs ns rs) ∧ Ints w' (fun b => w.heap.size ≤ b ∧ b < w'.heap.size) rv (specRs ns rs)

set_option maxHeartbeats 4000000 in
set_option maxRecDepth 100000 in
theorem write_any (w : World) (P : Nat → Prop) (nv rv : Value) (ns : List Nd) (rs : List Int) (hne : ns ≠ []) (hnv : Nodes w P nv ns) (hrv : Ints w P rv rs) (hP : ∀ b, P b → b < w.heap.size) (htx : ∀ d ∈ ns, TxOk d) :
    Calls Tryd.prog 70 #[.agg #[nv, rv], .bool false] w (TextPost w) := by
  have HNV := Lib.hid hnv
  have HRV := Lib.hid hrv
  have HTX := Lib.hid htx
  have HPP := Lib.hid hP
  obtain ⟨na, nl, nc, rfl⟩ : ∃ a l c, nv = .slice a l c := by
    obtain ⟨_, ⟨b, o, c, rfl, _⟩ | ⟨_, a, c, rfl⟩⟩ := hnv
    · exact ⟨_, _, _, rfl⟩
    · exact ⟨_, _, _, rfl⟩
  obtain ⟨ra, rc, rfl⟩ := hrv.shape
  have B0 := Blk.new w #[.slice na nl nc, .slice ra rs.length rc] 38
  have hB0 := below1 w (.cells #[.slice na nl nc, .slice ra rs.length rc] 38)
  have HOK := Lib.hid (ReadOk_any (w.alloc (.cells #[.slice na nl nc, .slice ra rs.length rc] 38)) P (.slice na nl nc) (.slice ra rs.length rc) ns rs hne (HNV.out.same fun g hg => hB0.block g (hP g hg)) (HRV.out.same fun g hg => hB0.block g (hP g hg)) (fun g hg => Nat.lt_of_lt_of_le (hP g hg) hB0.size) htx)
  clear hnv hrv htx hP
  go_enter Tryd.func70, Tryd.ntmps70
  go_upto_region 3 with (go_at_call 80; refine HOK.out.mono ?_; rintro e w1 hd; obtain ⟨ok, rfl, hok, hb1⟩ := hd; have B1 := B0.below hb1; have d0 := B1.cell0 (o := 0) (v := .slice na nl nc) rfl; have d1 := B1.cell0 (o := 1) (v := .slice ra rs.length rc) rfl)
  · refine bodyPost_ret (v := .tuple #[.string ⟨#[]⟩, .bool false]) (by simp [results, Tryd.results70, go_sem]) rfl ?_
    exact ⟨_, _, rfl, by decide, below_then hB0 hb1 hB0.size⟩
  have hok1 : ok = true := by
    have := (by assumption : (!ok) = false)
    simpa using this
  obtain ⟨h80, h12, hko, hrr⟩ := hok hok1
  have hal : allOk ns rs = true := by
    rw [allOk, Bool.and_eq_true, List.all_eq_true, List.all_eq_true]
    exact ⟨hko, hrr⟩
  have hbw1 : Below w.heap.size w w1 := below_then hB0 hb1 hB0.size
  have HSP := Lib.hid (specMin_any w1 P (.slice na nl nc) (.slice ra rs.length rc) ns rs hne (HNV.out.same fun g hg => hbw1.block g (HPP.out g hg)) (HRV.out.same fun g hg => hbw1.block g (HPP.out g hg)) (fun g hg => Nat.lt_of_lt_of_le (HPP.out g hg) hbw1.size))
  have hcl := spec_closed ns rs hal
  have HSR := Lib.hid hcl.2.2.1
  have HSK := Lib.hid hcl.1
  have HS80 := Lib.hid (Nat.le_trans hcl.2.2.2.1 h80)
  have HTS : Hid (∀ d ∈ specNs ns rs, TxOk d) := fun d hd => by
    obtain ⟨e, he, h1, h2⟩ := hcl.2.1 d hd
    have h3 := HTX.out e he
    unfold TxOk at h3 ⊢
    rw [h1, h2]
    exact h3
  clear hok hko hrr hal B1 HOK hcl
  go_upto_region 5 with (go_at_call 12; refine HSP.out.mono ?_; rintro e w2 hd; obtain ⟨v2, rfl, hb2, nv2, rv2, rfl, hN2, hI2⟩ := hd; obtain ⟨na2, nc2, rfl⟩ := Nodes.shape hN2; obtain ⟨ra2, rc2, rfl⟩ := hI2.shape)
  clear HSP
  generalize specNs ns rs = xs at *
  generalize specRs ns rs = ys at *
  obtain ⟨BX, BW⟩ := Blk.two w2 #[.slice na2 xs.length nc2, .slice ra2 ys.length rc2] #[.slice na2 xs.length nc2, .bool false, .slice none 0 0, .slice none 0 0, .int .i64 0, .string ⟨#[]⟩, .bool false] 38 124
  have hB3 := below2 w2 (.cells #[.slice na2 xs.length nc2, .slice ra2 ys.length rc2] 38) (.cells #[.slice na2 xs.length nc2, .bool false, .slice none 0 0, .slice none 0 0, .int .i64 0, .string ⟨#[]⟩, .bool false] 124)
  have hsz : ((w2.alloc (.cells #[.slice na2 xs.length nc2, .slice ra2 ys.length rc2] 38)).alloc (.cells #[.slice na2 xs.length nc2, .bool false, .slice none 0 0, .slice none 0 0, .int .i64 0, .string ⟨#[]⟩, .bool false] 124)).heap.size = w2.heap.size + 2 := by simp
  generalize ((w2.alloc (.cells #[.slice na2 xs.length nc2, .slice ra2 ys.length rc2] 38)).alloc (.cells #[.slice na2 xs.length nc2, .bool false, .slice none 0 0, .slice none 0 0, .int .i64 0, .string ⟨#[]⟩, .bool false] 124)) = w3 at *
  have hW3 : Wt w3 (w2.heap.size + 1) (.slice na2 xs.length nc2) [] [] 0 ⟨#[]⟩ false :=
    ⟨_, _, BW, World.ownsRow_nil _ _ _ _, World.ownsRow_nil _ _ _ _, fun g h => by simp [Value.ownBlock] at h, rfl, by decide, ⟨by decide, by decide⟩, fun m hm => by simp at hm, by decide⟩
  have hno : ¬ Own w3 (w2.heap.size + 1) w2.heap.size := fun h => by
    have := (own_iff BW).1 h
    simp [Value.ownBlock] at this
  have HND : Hid (xs ≠ [] → NdW w3 (w2.heap.size + 1) (.slice na2 xs.length nc2) xs) := fun h => ndw_of (hN2.same fun g hg => hB3.block g hg.2) h (fun g hg => by omega) HS80.out HSK.out
  have HI3 : Hid (Ints w3 (fun b => b < w2.heap.size) (.slice ra2 ys.length rc2) ys) := (hI2.weaken fun b hb => hb.2).same fun g hg => hB3.block g hg
  have HNA := Lib.hid (node_at xs (w2.heap.size + 1) (.slice na2 xs.length nc2) HS80.out HTS.out HSK.out)
  have hbw3 := Lib.hid (hbw1.trans ((hb2.trans (hB3.mono hb2.size)).mono hbw1.size))
  have hw2l := Nat.le_trans hbw1.size hb2.size
  have hne2 : w2.heap.size ≠ w2.heap.size + 1 := by omega
  have HYL := Lib.hid hI2.1
  clear hN2 hI2 hB3 hb2 d0 d1 B0 hB0 hb1 BW
  go_wp2
  go_loopw [8] (fun i wr => ∃ (j : Nat) (cnt : Int) (out : ByteArray) (ov : Bool), i = .int .i64 j ∧ j ≤ ys.length ∧ Wt wr (w2.heap.size + 1) (.slice na2 xs.length nc2) [] [] cnt out ov ∧ FrW (w2.heap.size + 1) w3 wr ∧ Blk wr w2.heap.size #[.slice na2 xs.length nc2, .slice ra2 ys.length rc2] 38 ∧ ¬ Own wr (w2.heap.size + 1) w2.heap.size) (fun i wr => ys.length - (intOf i).toNat)
  case atStart => exact ⟨0, _, _, _, rfl, by omega, hW3, FrW.refl _ _, BX, hno⟩
  case round =>
    have HW3 := Lib.hid hW3
    clear hW3 BX hno
    obtain ⟨j, cnt, out, ov, rfl, hj, hW, hF, hBX, hno⟩ := hrel
    have hj0 : (0 : Int) ≤ j := by omega
    have hyl := HYL.out
    have c0 := hBX.cell0 (o := 0) (v := .slice na2 xs.length nc2) rfl
    have c1 := hBX.cell0 (o := 1) (v := .slice ra2 ys.length rc2) rfl
    by_cases hlt : j < ys.length
    · obtain ⟨y, hy⟩ := getSome ys j hlt
      obtain ⟨rb, ro, rfl, hrb, hyc⟩ : ∃ rb ro, ra2 = some ⟨rb, ro, none⟩ ∧ rb < w2.heap.size ∧ w3.cell? ⟨rb, ro + j, none⟩ = some (.int .i64 y) := by
        obtain ⟨_, ⟨b', o', c', h1, h2, h3⟩ | ⟨h1, _⟩⟩ := HI3.out
        · injection h1 with h4 h5 h6
          exact ⟨b', o', h4, h2, h3 j y hy⟩
        · rw [h1] at hlt
          simp at hlt
      have HYR := Lib.hid (HSR.out y (List.mem_of_getElem? hy))
      have hxn : xs ≠ [] := by
        rintro rfl
        have := HYR.out
        simp [inR] at this
        omega
      have HND3 := Lib.hid (HND.out hxn)
      have hrne : rb ≠ w2.heap.size + 1 := by omega
      have hrb1 : rb < w2.heap.size + 1 := by omega
      clear hy hxn
      by_cases hj1 : 0 < j
      · have HP1 := Lib.hid (put_any _ _ _ _ _ _ _ _ ⟨#[10]⟩ hW (show 1 ≤ 100000000 by omega))
        go_upto_region 10 with (go_at_call 81; refine HP1.out.mono ?_; rintro e w4 hd; obtain ⟨cnt4, out4, ov4, rfl, hW4, hF4⟩ := hd)
        have hF5 := hF.trans hF4
        have hBX4 := hF4.blk hBX hne2 hno
        clear c0 c1 hBX hno hF hF4 hW
        have hS := hW4.zero
        have g0 := hBX4.1.cell0 (o := 0) (v := .slice na2 xs.length nc2) rfl
        have g1 := hBX4.1.cell0 (o := 1) (v := .slice (some ⟨rb, ro, none⟩) ys.length rc2) rfl
        have f4 := hS.2.2.1
        have f4c := hS.2.2.2
        have gy := ((hF5.below HW3.out).cell (p := ⟨rb, ro + j, none⟩) hrb1).trans hyc
        have hBX5 := hS.2.1.blk hBX4.1 hne2 hBX4.2
        have hF6 := hF5.trans hS.2.1
        have HN5 := Lib.hid (HNA.out _ _ _ _ y hS.1 (HND3.out.below (hF6.below HW3.out)) HYR.out)
        clear hS hBX4 hF5
        go_wp2_with (go_at_call 82; refine HN5.out.mono ?_; rintro e w6 hd; obtain ⟨cnt6, out6, ov6, rfl, hW6, hF7⟩ := hd)
        have hBX7 := hF7.blk hBX5.1 hne2 hBX5.2
        exact ⟨⟨j + 1, cnt6, out6, ov6, by go_num, by omega, hW6, hF6.trans hF7, hBX7.1, hBX7.2⟩, by simp [intOf]; omega⟩
      · have hS := hW.zero
        have f4 := hS.2.2.1
        have f4c := hS.2.2.2
        have gy := ((hF.below HW3.out).cell (p := ⟨rb, ro + j, none⟩) hrb1).trans hyc
        have hBX5 := hS.2.1.blk hBX hne2 hno
        have hF6 := hF.trans hS.2.1
        have HN5 := Lib.hid (HNA.out _ _ _ _ y hS.1 (HND3.out.below (hF6.below HW3.out)) HYR.out)
        clear hS hBX hF hW hno
        go_wp2_with (go_at_call 82; refine HN5.out.mono ?_; rintro e w6 hd; obtain ⟨cnt6, out6, ov6, rfl, hW6, hF7⟩ := hd)
        have hBX7 := hF7.blk hBX5.1 hne2 hBX5.2
        exact ⟨⟨j + 1, cnt6, out6, ov6, by go_num, by omega, hW6, hF6.trans hF7, hBX7.1, hBX7.2⟩, by simp [intOf]; omega⟩
    · have hbel := Lib.hid (hbw3.out.trans ((hF.below HW3.out).mono (by omega)))
      obtain ⟨av, mv, hB, _, _, _, _, hos, _⟩ := id hW
      have d5 := hB.cell0 (o := 5) (v := .string out) rfl
      have d6 := hB.cell0 (o := 6) (v := .bool ov) rfl
      cases ov
      · go_wp2
        refine bodyPost_ret (v := .tuple #[.string out, .bool true]) (by simp [results, Tryd.results70, go_sem]) rfl ?_
        exact ⟨out, true, rfl, hos, hbel.out⟩
      · go_wp2
        refine bodyPost_ret (v := .tuple #[.string ⟨#[]⟩, .bool false]) (by simp [results, Tryd.results70, go_sem]) rfl ?_
        exact ⟨⟨#[]⟩, false, rfl, by decide, hbel.out⟩

/-- The reference's ReadPrint of data that have nodes. -/
theorem print_any (w : World) (P : Nat → Prop) (nv rv : Value) (ns : List Nd) (rs : List Int) (hne : ns ≠ []) (hnv : Nodes w P nv ns) (hrv : Ints w P rv rs) (hP : ∀ b, P b → b < w.heap.size) (htx : ∀ d ∈ ns, TxOk d) :
    Calls Tryd.prog 64 #[.agg #[nv, rv]] w (TextPost w) := by
  obtain ⟨na, nc, rfl⟩ := Nodes.shape hnv
  obtain ⟨ra, rc, rfl⟩ := hrv.shape
  have hB0 := below1 w (.cells #[.slice na ns.length nc, .slice ra rs.length rc] 38)
  have HW := Lib.hid (write_any (w.alloc (.cells #[.slice na ns.length nc, .slice ra rs.length rc] 38)) P _ _ ns rs hne (hnv.same fun g hg => hB0.block g (hP g hg)) (hrv.same fun g hg => hB0.block g (hP g hg)) (fun g hg => Nat.lt_of_lt_of_le (hP g hg) hB0.size) htx)
  clear hnv hrv htx hP hne
  go_enter Tryd.func64, Tryd.ntmps64
  go_wp2_with (go_at_call 70; refine HW.out.mono ?_; rintro e w1 hd; obtain ⟨s, ok, rfl, hs, hb⟩ := hd)
  refine bodyPost_ret (v := .tuple #[.string s, .bool ok]) (by simp [results, Tryd.results64, go_sem]) rfl ?_
  exact ⟨s, ok, rfl, hs, below_then hB0 hb hB0.size⟩
end Go.Proofs.YtjpkmcaogekkdaaDoor.Wr
