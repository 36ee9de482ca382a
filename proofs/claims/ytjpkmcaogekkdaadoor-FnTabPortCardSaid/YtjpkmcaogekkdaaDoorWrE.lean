/- Whether a node is come to from itself, walked in the reference: that the search ends. -/
import Derived.Test.YtjpkmcaogekkdaaDoorWrD
import Derived.Test.YtjpkmcaogekkdaaDoorRmK2
namespace Go.Proofs.YtjpkmcaogekkdaaDoor.Wr
open Go.RowKit Go.Proofs.YtjpkmcaogekkdaaDoor.Rm Go.Proofs.YtjpkmcaogekkdaaDoor.Nu Go.Proofs.YtjpkmcaogekkdaaDoor.Gr
set_option linter.unusedVariables false
set_option linter.unusedSimpArgs false

theorem OwnRow.one (w : World) (x : Int) : OwnRow (w.alloc (.cells #[.int .i64 x] 3)) w.heap.size (.slice (some ⟨w.heap.size, 0, none⟩) 1 1) [x] :=
  World.ownsRow_lit w #[.int .i64 x] 1 (Nat.le_refl _) (by simp [maxLen]) rfl

set_option maxHeartbeats 4000000 in
set_option maxRecDepth 100000 in
theorem around_any (w : World) (P : Nat → Prop) (b o c n : Nat) (aa : Option Addr) (ac : Nat) (ns : List Nd) (A : List Int) (x0 : Int) (hb : b < w.heap.size) (hP : ∀ b, P b → b < w.heap.size) (hn : ns.length = n) (hn80 : n ≤ 1000) (hx0 : inR n x0 = true)
    (hx : ∀ i d, ns[i]? = some d → ∃ kv, w.cell? ⟨b, o + i * 3 + 2, none⟩ = some kv ∧ Ints w P kv d.kids)
    (hk : ∀ d ∈ ns, ∀ k ∈ d.kids, inR n k = true)
    (hA : A.length ≤ 1000) (hAc : A ≠ [] → ∃ g, aa = some ⟨g, 0, none⟩ ∧ g < w.heap.size ∧ ∀ i x, A[i]? = some x → w.cell? ⟨g, i, none⟩ = some (.int .i64 x)) :
    Calls Tryd.prog 114 #[.slice (some ⟨b, o, none⟩) n c, .int .i64 x0, .slice aa A.length ac] w (ABool w) := by
  have HX := Lib.hid hx
  have HN := Lib.hid hn
  have HP := Lib.hid hP
  have HK := Lib.hid hk
  have HPA := Lib.hid (fun (w' : World) (x : Int) (hw : Below w.heap.size w w') => place_any w' aa A.length ac A x rfl (by omega) (fun hne => by
    obtain ⟨g, h1, h2, h3⟩ := hAc hne
    exact ⟨g, h1, fun i x hi => (hw.cell (p := ⟨g, i, none⟩) h2).trans (h3 i x hi)⟩))
  have hG0 : Rm.Good n [x0] := ⟨by simp, fun g hg => by rw [List.mem_singleton.1 hg]; exact hx0⟩
  clear hx hn hP hk hAc
  go_enter Tryd.func114, Tryd.ntmps114
  go_wp2
  go_loopw [7, 8] (fun v i wr => ∃ (k : Nat) (S : List Int), i = .int .i64 k ∧ k ≤ S.length ∧ Below w.heap.size w wr ∧ OwnRow wr w.heap.size v S ∧ Hid (Rm.Good n S)) (fun v i wr => n - (intOf i).toNat)
  case atStart => exact ⟨0, [x0], rfl, by simp, below1 _ _, OwnRow.one w x0, hG0⟩
  case round =>
    clear hG0
    obtain ⟨k, S, rfl, hk, hbel, hown, hG⟩ := hrel
    have hk0 : (0 : Int) ≤ k := by omega
    have hSn : S.length ≤ n := hG.out.le
    by_cases hlt : k < S.length
    · obtain ⟨sa, sc, rfl, hsh⟩ := hown.shape
      obtain ⟨sg, rfl, hsg1, hsg2, hsc⟩ := hsh (by intro e; rw [e] at hlt; simp at hlt)
      obtain ⟨y, hy⟩ := getSome S k hlt
      have cy := hsc k y hy
      have hyR := hG.out.2 y (List.mem_of_getElem? hy)
      obtain ⟨yn, rfl⟩ : ∃ yn : Nat, y = yn := ⟨y.toNat, by simp [inR] at hyR; omega⟩
      have hyn : yn < n := by simp [inR] at hyR; omega
      have hyn0 : (0 : Int) ≤ yn := by omega
      obtain ⟨d, hd⟩ := getSome ns yn (by rw [HN.out]; exact hyn)
      obtain ⟨kv, hkc, hki⟩ := HX.out yn d hd
      obtain ⟨ka, kc, rfl⟩ := hki.shape
      have ck := (hbel.cell (p := ⟨b, o + yn * 3 + 2, none⟩) hb).trans hkc
      have hkl := hki.1
      have HKI := Lib.hid hki
      have HKD := Lib.hid (HK.out d (List.mem_of_getElem? hd))
      have HOW := Lib.hid hown
      clear hsh hsc hy hyR hd hkc hki hown
      go_wp2
      generalize wr = wo at *
      go_loopw [7, 10] (fun v i wr => ∃ (j : Nat) (T : List Int), i = .int .i64 j ∧ j ≤ d.kids.length ∧ k < T.length ∧ Below w.heap.size w wr ∧ OwnRow wr w.heap.size v T ∧ Hid (Rm.Good n T)) (fun v i wr => d.kids.length - (intOf i).toNat)
      case atStart => exact ⟨0, S, rfl, by omega, hlt, hbel, HOW.out, hG.out⟩
      case round =>
        obtain ⟨j, T, rfl, hj, hkT, hbel2, hown2, hG2⟩ := hrel
        have hj0 : (0 : Int) ≤ j := by omega
        have hTn : T.length ≤ n := hG2.out.le
        by_cases hltj : j < d.kids.length
        · obtain ⟨x, hxj⟩ := getSome d.kids j hltj
          obtain ⟨kb, ko, rfl, hkb, cx⟩ : ∃ kb ko, ka = some ⟨kb, ko, none⟩ ∧ kb < w.heap.size ∧ wr.cell? ⟨kb, ko + j, none⟩ = some (.int .i64 x) := by
            obtain ⟨_, ⟨b', o', c', h1, h2, h3⟩ | ⟨h1, _⟩⟩ := HKI.out
            · injection h1 with h4 h5 h6
              exact ⟨b', o', h4, HP.out b' h2, (hbel2.cell (p := ⟨b', o' + j, none⟩) (HP.out b' h2)).trans (h3 j x hxj)⟩
            · rw [h1] at hltj
              simp at hltj
          have hxR := HKD.out x (List.mem_of_getElem? hxj)
          have HXR := Lib.hid hxR
          have HOW2 := Lib.hid hown2
          obtain ⟨ta, tc, rfl, hsh2⟩ := hown2.shape
          have HPS := Lib.hid (place_any wr ta T.length tc T x rfl (by omega) (fun hne => by
            obtain ⟨g, h3, _, _, h4⟩ := hsh2 hne
            exact ⟨g, h3, h4⟩))
          clear hxj hxR hsh2 hown2
          by_cases hx0 : x = x0
          · subst hx0
            have hb1 : (x == x) = true := by simp
            go_wp2
            go_ret
            exact ⟨true, rfl, hbel2⟩
          · have hb1 : (x == x0) = false := by rw [beq_eq_false_iff_ne]; exact hx0
            by_cases hin : x ∈ T
            · have hp : 0 ≤ placeI T x := by rw [placeI, if_pos hin]; omega
              have hp2 : decide (placeI T x < 0) = false := by rw [decide_eq_false_iff_not]; omega
              go_wp2_with (go_at_call 31; refine HPS.out.mono ?_; rintro e w1 ⟨rfl, rfl⟩)
              exact ⟨⟨j + 1, T, by go_num, by omega, hkT, hbel2, HOW2.out, hG2.out⟩, by simp [intOf]; omega⟩
            · have hp : placeI T x = -1 := by rw [placeI, if_neg hin]
              rw [hp] at HPS
              by_cases hinA : x ∈ A
              · have hpA : 0 ≤ placeI A x := by rw [placeI, if_pos hinA]; omega
                go_wp2_with (first | (go_at_call 31; (with_reducible refine HPS.out.mono ?_); rintro e w1 ⟨rfl, rfl⟩) | (go_at_call 31; refine (HPA.out _ _ hbel2).mono ?_; rintro e w1 ⟨rfl, rfl⟩))
                exact ⟨⟨j + 1, T, by go_num, by omega, hkT, hbel2, HOW2.out, hG2.out⟩, by simp [intOf]; omega⟩
              · have hpA : placeI A x = -1 := by rw [placeI, if_neg hinA]
                have HPA2 := Lib.hid (HPA.out wr x hbel2)
                rw [hpA] at HPA2
                obtain ⟨g2, cap2, w6, happ, hown6, hgr6, hgo6, hgl6⟩ := append_int wr w.heap.size _ T x HOW2.out hbel2.size (by omega)
                have H6 := Lib.hid hown6
                have HB6 := Lib.hid (grown_below hgr6 HOW2.out.above hbel2.size)
                clear hown6 hgr6 hgo6 hgl6
                go_wp2_with (first | (go_at_call 31; (with_reducible refine HPS.out.mono ?_); rintro e w1 ⟨rfl, rfl⟩) | (go_at_call 31; (with_reducible refine HPA2.out.mono ?_); rintro e w1 ⟨rfl, rfl⟩) | (at_builtin; refine wpList_append_run rfl _ _ 32 rfl rfl rfl happ ?_))
                exact ⟨⟨j + 1, T ++ [x], by go_num, by omega, by simp; omega, hbel2.trans (HB6.out.mono (Nat.le_refl _)), H6.out, hG2.out.snoc HXR.out hin⟩, by simp [intOf]; omega⟩
        · go_wp2
          have := hG2.out.le
          exact ⟨⟨k + 1, T, by go_num, by omega, hbel2, hown2, hG2.out⟩, by simp [intOf]; omega⟩
    · obtain ⟨sa, sc, rfl, _⟩ := hown.shape
      go_wp2
      go_ret
      exact ⟨false, rfl, hbel⟩
end Go.Proofs.YtjpkmcaogekkdaaDoor.Wr
