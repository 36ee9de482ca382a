/- A node written in the reference's writer, walked, where deeper ones are. -/
import Derived.Test.YtjpkmcaogekkdaaDoorWrH
namespace Go.Proofs.YtjpkmcaogekkdaaDoor.Wr
open Go.RowKit Go.Proofs.YtjpkmcaogekkdaaDoor.Rm Go.Proofs.YtjpkmcaogekkdaaDoor.Nu Go.Proofs.YtjpkmcaogekkdaaDoor.Gr
set_option linter.unusedVariables false
set_option linter.unusedSimpArgs false

/-- the writing of a pair's parts, the pair being on the way, comes back -/
def PairAt (ns : List Nd) (b : Nat) (nv : Value) (A M : List Int) : Prop :=
  ∀ (w : World) (cnt : Int) (out : ByteArray) (ov : Bool) (x : Int) (d : Nd), Wt w b nv A M cnt out ov → NdW w b nv ns → inR ns.length x = true → ns[x.toNat]? = some d → d.kids.length = 2 → Calls Tryd.prog 98 #[.pointer (some ⟨b, 0, none⟩), .int .i64 x] w (Done b nv A M w)

theorem two_kids {n : Nat} {d : Nd} (h7 : d.sort = 7) (h : kidsOk n d = true) : d.kids.length = 2 := by
  simp [kidsOk, cntOk, h7] at h
  exact h.1

set_option maxHeartbeats 4000000 in
set_option maxRecDepth 100000 in
theorem node_any (ns : List Nd) (b : Nat) (nv : Value) (A M : List Int) (hlen : A.length < 1000) (htx : ∀ d ∈ ns, TxOk d) (hko : ∀ d ∈ ns, kidsOk ns.length d = true)
    (HN : ∀ x m, inR ns.length x = true → x ∉ A → NodeAt ns b nv (A ++ [x]) (M ++ [m])) (HP : ∀ x m, inR ns.length x = true → x ∉ A → PairAt ns b nv (A ++ [x]) (M ++ [m])) : NodeAt ns b nv A M := by
  intro w cnt out ov x h hnd hx
  have hb := h.lt
  have HW := Lib.hid h
  have HND := Lib.hid hnd
  obtain ⟨nb, no, nc, rfl, hnb, h80, hki, hcells⟩ := hnd
  obtain ⟨xn, rfl⟩ : ∃ xn : Nat, x = xn := ⟨x.toNat, by simp [inR] at hx; omega⟩
  have hxn : xn < ns.length := by simp [inR] at hx; omega
  have hx0 : (0 : Int) ≤ xn := by omega
  obtain ⟨d, hd⟩ := getSome ns xn hxn
  obtain ⟨a0, a1, kv, a2, a3⟩ := hcells xn d hd
  obtain ⟨ka, kc, rfl⟩ := a3.shape
  obtain ⟨av, mv, hB, _⟩ := h
  have c0 := hB.cell0 (o := 0) (v := .slice (some ⟨nb, no, none⟩) ns.length nc) rfl
  have c6 := hB.cell0 (o := 6) (v := .bool ov) rfl
  have HD := Lib.hid hd
  have HKI := Lib.hid a3
  have HKR := Lib.hid (hki d (List.mem_of_getElem? hd))
  have HNN := Lib.hid HN
  have HPP := Lib.hid HP
  have HTX := Lib.hid (htx d (List.mem_of_getElem? hd))
  have HKO := Lib.hid (hko d (List.mem_of_getElem? hd))
  have HX := Lib.hid hx
  clear HN HP htx hko hcells hki a3 hd hx
  go_enter Tryd.func82, Tryd.ntmps82
  have BX := Blk.new w #[.int .i64 d.sort, .string d.text, .slice ka d.kids.length kc] 58
  have hB0 := below1 w (.cells #[.int .i64 d.sort, .string d.text, .slice ka d.kids.length kc] 58)
  have hW0 := HW.out.below hB0
  have hF0 := FrW.of_below hB0 hb
  have hno := own_new HW.out (.cells #[.int .i64 d.sort, .string d.text, .slice ka d.kids.length kc] 58)
  have hbne : w.heap.size ≠ b := by omega
  cases ov
  · by_cases hat : d.sort ≠ 7 ∧ d.sort ≠ 8
    · have e7 : (d.sort != 7) = true := by rw [bne_iff_ne]; exact hat.1
      have e8 : (d.sort != 8) = true := by rw [bne_iff_ne]; exact hat.2
      go_wp2_with (go_at_call 94; refine (atom_any _ _ _ _ _ _ _ _ _ _ _ hW0 HTX.out.1 ?_).mono ?_; (intro e; have := HTX.out.2 e; have := szAll_le d.text; omega); rintro e w3 hd; obtain ⟨cnt', out', ov', rfl, hw', hf'⟩ := hd)
      refine bodyPost_ret (v := .tuple #[]) (by simp [results, Tryd.results82, go_sem]) rfl ?_
      exact ⟨cnt', out', ov', rfl, hw', hF0.trans hf'⟩
    · have h78 : d.sort = 7 ∨ d.sort = 8 := by omega
      have HLB := Lib.hid (label_any _ _ _ _ _ _ _ _ (xn : Int) hW0)
      by_cases hin : (xn : Int) ∈ A
      · have e78 : ((d.sort != 7) && (d.sort != 8)) = false := by rcases h78 with h | h <;> rw [h] <;> rfl
        rcases h78 with h7 | h7
        all_goals
          rw [h7] at HLB BX hB0 hW0 hF0 hno
          go_wp2_with (first | (go_at_call 95; refine HLB.out.mono ?_; rintro e w2 ⟨name, first, rfl, hfi, hns, hb2⟩; have hff : first = false := (by cases first; rfl; exact absurd hin (hfi.1 rfl)); subst hff; have hW2 := hW0.below hb2; have hF2 := hF0.trans (FrW.of_below hb2 hW0.lt)) | (go_at_call 81; refine (put_any _ _ _ _ _ _ _ _ _ hW2 ?_).mono ?_; (simp only [ByteArray.size_append, sz1]; omega); rintro e w3 hd; obtain ⟨cnt', out', ov', rfl, hw', hf'⟩ := hd))
          refine bodyPost_ret (v := .tuple #[]) (by simp [results, Tryd.results82, go_sem]) rfl ?_
          exact ⟨cnt', out', ov', rfl, hw', hF2.trans hf'⟩
      · rcases h78 with h7 | h7
        all_goals
          rw [h7] at HLB BX hB0 hW0 hF0 hno
          go_wp2_with (first | (go_at_call 95; refine HLB.out.mono ?_; rintro e w2 ⟨name, first, rfl, hfi, hns, hb2⟩; obtain rfl : first = true := hfi.2 hin; clear hfi; have hW2 := hW0.below hb2; have hF2 := hF0.trans (FrW.of_below hb2 hW0.lt); have hB2 := (FrW.of_below hb2 hW0.lt).blk BX hbne hno) | (go_at_call 96; refine (enter_any _ _ _ ns _ _ _ _ _ _ hW2 (HND.out.below (hF2.below HW.out)) HX.out hlen).mono ?_; rintro e w3 ⟨m, cnt3, out3, ov3, rfl, hW3, hf3⟩; have hF3 := hF2.trans hf3; have hB3 := hf3.blk hB2.1 hbne hB2.2; have z1 := hB3.1.cell0 (o := 1) (v := .string d.text) rfl; have z2 := hB3.1.cell0 (o := 2) (v := .slice ka d.kids.length kc) rfl; first | (have z0 := hB3.1.cell0 (o := 0) (v := .int .i64 7) rfl) | (have z0 := hB3.1.cell0 (o := 0) (v := .int .i64 8) rfl)))
          have HB3 := Lib.hid hB3
          have HNR := Lib.hid (HNN.out (xn : Int) m HX.out hin)
          have HPR := Lib.hid (HPP.out (xn : Int) m HX.out hin)
          have hnd3 := HND.out.below (hF3.below HW.out)
          have HROW := Lib.hid (row_any ns b _ (A ++ [(xn : Int)]) (M ++ [m]) HNR.out w3 cnt3 out3 ov3 hW3 hnd3 8 d.text (.slice ka d.kids.length kc) d.kids (HKI.out.same fun g hg => (hF3.below HW.out).block g hg) HKR.out)
          have HP2 := Lib.hid (put_any w3 b _ _ _ cnt3 out3 ov3 ⟨#[40]⟩ hW3 (show 1 ≤ 100000000 by omega))
          go_wp2_with (first | (go_at_call 97; refine HROW.out.mono ?_; rintro e w4 hd; obtain ⟨cnt4, out4, ov4, rfl, hW4, hf4⟩ := hd; have hF4 := hF3.trans hf4) | (go_at_call 81; refine HP2.out.mono ?_; rintro e w4 hd; obtain ⟨cnt4, out4, ov4, rfl, hW4, hf4⟩ := hd; have hF4 := hF3.trans hf4) | (go_at_call 98; refine (HPR.out _ _ _ _ _ d hW4 (HND.out.below (hF4.below HW.out)) HX.out (by simpa using HD.out) (two_kids h7 HKO.out)).mono ?_; rintro e w6 hd; obtain ⟨cnt6, out6, ov6, rfl, hW6, hf6⟩ := hd; replace hF4 := hF4.trans hf6; replace hW4 := hW6) | (go_at_call 99; refine (leave_any _ _ _ _ _ _ _ _ _ _ hW4).mono ?_; rintro e w5 hd; obtain ⟨cnt5, out5, ov5, rfl, hW5, hf5⟩ := hd))
          go_end0
          exact ⟨cnt5, out5, ov5, rfl, hW5, hF4.trans hf5⟩
  · go_wp2
    refine bodyPost_ret (v := .tuple #[]) (by simp [results, Tryd.results82, go_sem]) rfl ?_
    exact ⟨cnt, out, true, rfl, hW0, hF0⟩
end Go.Proofs.YtjpkmcaogekkdaaDoor.Wr
