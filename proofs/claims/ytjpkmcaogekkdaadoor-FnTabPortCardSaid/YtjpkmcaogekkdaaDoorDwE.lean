/- The reference's draws: texts out of pieces, the text of data, a port, walked. -/
import Derived.Test.YtjpkmcaogekkdaaDoorDwD
import Derived.Test.YtjpkmcaogekkdaaDoorWrL
import Derived.Deep.RegionLaw
namespace Go.Proofs.YtjpkmcaogekkdaaDoor.Dw
open Go.RowKit Go.Proofs.YtjpkmcaogekkdaaDoor.Rm Go.Proofs.YtjpkmcaogekkdaaDoor.Nu Go.Proofs.YtjpkmcaogekkdaaDoor.Wr Go.Proofs.YtjpkmcaogekkdaaDoor.Gr
set_option linter.unusedVariables false
set_option linter.unusedSimpArgs false

def qP (s : ByteArray) : Bool := decide (s.size ≤ 15)
def TextD (n c b p : Nat) (w : World) (e : Ending) (w' : World) : Prop :=
  ∃ (s : ByteArray) (p' : Nat), e = .returned (.string s) ∧ s.size ≤ n ∧ Rd w' b p' ∧ p' ≤ p + c ∧ FrR b w w'

set_option maxHeartbeats 2000000 in
set_option maxRecDepth 100000 in
theorem pieces_any (w : World) (b p : Nat) (h : Rd w b p) (hp : p ≤ 800000) : Calls Tryd.prog 66 #[.pointer (some ⟨b, 0, none⟩)] w (TextD 500 100 b p w) := by
  have HP1 := Lib.hid (pick_any w b p 14 h (by omega) (by omega))
  go_enter Tryd.func66, Tryd.ntmps66
  go_wp2_with (go_at_call 60; refine HP1.out.mono ?_; rintro e w1 hd; obtain ⟨k1, rfl, hk1, _, hR1, hF1⟩ := hd; replace hk1 := hk1 (by decide); have hk10 : (0 : Int) ≤ k1 := (by omega))
  go_loopw [3, 4] (fun o i wr => ∃ (m p2 : Nat) (out : ByteArray), o = .string out ∧ i = .int .i64 m ∧ m ≤ 13 ∧ out.size + m * 30 ≤ 400 ∧ Rd wr b p2 ∧ p2 + m * 2 ≤ p + 40 ∧ FrR b w wr) (fun o i wr => (intOf i).toNat)
  case atStart => exact ⟨k1, p + 1, ⟨#[]⟩, rfl, rfl, by omega, (by show 0 + k1 * 30 ≤ 400; omega), hR1, by omega, hF1⟩
  case round =>
    clear hR1 hF1 hk1 hk10 HP1
    obtain ⟨m, p2, out, rfl, rfl, hm, hos, hR, hp2, hF⟩ := hrel
    have hm0 : (0 : Int) ≤ m := by omega
    by_cases hlt : 0 < m
    · go_wp2_with (first | (go_at_call 59; refine (of_lit qP w2 b (p2 + 1) _ _ _ _ hR2 (by omega) (by decide +kernel) (by rfl) (by decide) (by decide)).mono ?_; rintro e w3 ⟨s3, rfl, hs3, hR3, hF3⟩; have hz3 := of_decide_eq_true hs3) | (go_at_call 59; refine (of_lit qP wr b p2 _ _ _ _ hR (by omega) (by decide +kernel) (by rfl) (by decide) (by decide)).mono ?_; rintro e w2 ⟨s2, rfl, hs2, hR2, hF2⟩; have hz2 := of_decide_eq_true hs2))
      refine ⟨⟨m - 1, p2 + 2, _, rfl, congrArg (Value.int .i64) (by omega), by omega, by rw [ByteArray.size_append, ByteArray.size_append]; omega, hR3, by omega, (hF.trans hF2).trans hF3⟩, by simp [intOf]; omega⟩
    · go_wp2
      go_ret
      exact ⟨out, p2, rfl, by omega, hR, by omega, hF⟩

set_option maxHeartbeats 4000000 in
set_option maxRecDepth 100000 in
theorem source_any (w : World) (b p : Nat) (h : Rd w b p) (hp : p ≤ 500000) : Calls Tryd.prog 58 #[.pointer (some ⟨b, 0, none⟩)] w (TextD 5000 20000 b p w) := by
  have HD := Lib.hid (data_draw w b p h (by omega))
  go_enter Tryd.func58, Tryd.ntmps58
  go_upto_region 2 with (first | (go_at_call 64; refine (print_any w1 _ nv rv ns rs hne hnv hrv (fun _ h => h) htx).mono ?_; rintro e w2 hd; obtain ⟨s2, ok, rfl, hs2, hb2⟩ := hd) | (go_at_call 65; refine HD.out.mono ?_; rintro e w1 hd; obtain ⟨nv, rv, ns, rs, p1, rfl, hne, hnv, hrv, htx, hR1, hp1, hF1⟩ := hd))
  have hR2 := hR1.below hb2
  have hF2 := hF1.trans (FrR.of_below hb2)
  have HP3 := Lib.hid (pick_any w2 b p1 3 hR2 (by omega) (by omega))
  have HPC := Lib.hid (fun w' p' (hR : Rd w' b p') (hp : p' ≤ 700000) => pieces_any w' b p' hR (by omega))
  clear hnv hrv htx hne hb2 hR1 hF1 HD
  cases ok
  · go_wp2_with (go_at_call 66; refine (HPC.out _ _ hR2 (by omega)).mono ?_; rintro e w3 hd; obtain ⟨s3, p3, rfl, hs3, hR3, hp3, hF3⟩ := hd)
    go_ret
    exact ⟨s3, p3, rfl, by omega, hR3, by omega, hF2.trans hF3⟩
  · go_upto_region 4 with (first | (go_at_call 66; refine (HPC.out _ _ hR3 (by omega)).mono ?_; rintro e w4 hd; obtain ⟨s4, p4, rfl, hs4, hR4, hp4, hF4⟩ := hd) | (go_at_call 60; refine HP3.out.mono ?_; rintro e w3 hd; obtain ⟨k3, rfl, _, _, hR3, hF3⟩ := hd))
    · go_ret
      exact ⟨s4, p4, rfl, by omega, hR4, by omega, (hF2.trans hF3).trans hF4⟩
    have hF4 := hF2.trans hF3
    have HP6 := Lib.hid (pick_any w3 b (p1 + 1) 6 hR3 (by omega) (by omega))
    clear HP3 HPC hR2 hF2 hF3
    go_upto_region 5 with (go_at_call 60; refine HP6.out.mono ?_; rintro e w5 hd; obtain ⟨k5, rfl, _, _, hR5, hF5⟩ := hd)
    have hF6 := hF4.trans hF5
    clear hR3 hF4 hF5 HP6
    have hs20 : (0 : Int) ≤ s2.size := by omega
    by_cases h0 : k5 = 0
    · subst h0
      have HPS := Lib.hid (pick_any w5 b (p1 + 1 + 1) ((s2.size : Int) + 1) hR5 (by omega) (by omega))
      go_upto_region 7 with (go_at_call 60; refine HPS.out.mono ?_; rintro e w7 hd; obtain ⟨k7, rfl, hk7, _, hR7, hF7⟩ := hd; replace hk7 := hk7 (by omega); have hk70 : (0 : Int) ≤ k7 := (by omega))
      have hF8 := hF6.trans hF7
      have hk7n : k7 ≤ s2.size := by omega
      have hk7i : (k7 : Int) ≤ s2.size := by omega
      have HOF := Lib.hid (fun C (hq : allStr qP C = true) (hn : C.size = 11) => of_lit qP w7.drew b (p1 + 1 + 1 + 1) 11 11 C 9 hR7 (by omega) hq hn (by decide) (by decide))
      clear hF6 hF7 HPS hR5
      go_region_law (first | (go_simp; go_at_call 59; refine (HOF.out _ (by decide +kernel) (by rfl)).mono ?_; rintro e w8 ⟨s8, rfl, hs8, hR8, hF9⟩; have hz8 := of_decide_eq_true hs8; have hc1 : ¬ 9223372036854775807 < k7 + s8.size := (by omega); have hc2 : ¬ 9223372036854775807 < k7 + s8.size + (s2.size - k7) := (by omega); dsimp only) | fail)
      all_goals
        go_wp2
        go_ret
        exact ⟨_, p1 + 4, rfl, by rw [ByteArray.size_append, ByteArray.size_append, ByteArray.size_extract, ByteArray.size_extract]; omega, hR8, by omega, hF8.drew.trans hF9⟩
    · have h0b : ((k5 : Int) == 0) = false := by rw [beq_eq_false_iff_ne]; omega
      by_cases hz : 0 < s2.size
      · have hzI : (0 : Int) < s2.size := by omega
        go_wp2
        all_goals
          go_ret
          exact ⟨_, p1 + 2, rfl, by first | omega | (rw [ByteArray.size_extract]; omega), hR5, by omega, hF6⟩
      · have hzI : ¬ (0 : Int) < s2.size := by omega
        go_wp2
        all_goals
          go_ret
          exact ⟨_, p1 + 2, rfl, by first | omega | (rw [ByteArray.size_extract]; omega), hR5, by omega, hF6⟩

theorem row2_at {w : World} {g k : Nat} {x y : Int} {t : TypeId} (h : Blk w g #[.int .i64 x, .int .i64 y] t) (hk : (k : Int) < 2) : ∃ z : Int, w.cell? ⟨g, k, none⟩ = some (.int .i64 z) ∧ (z = x ∨ z = y) := by
  rcases (show k = 0 ∨ k = 1 by omega) with rfl | rfl
  · exact ⟨x, h.cell0 rfl, .inl rfl⟩
  · exact ⟨y, h.cell0 rfl, .inr rfl⟩
theorem facts2 {w : World} {g : Nat} {v0 v1 : Value} {t : TypeId} (h : Blk w g #[v0, v1] t) : g < w.heap.size ∧ w.cell? ⟨g, 0, none⟩ = some v0 ∧ w.cell? ⟨g, 1, none⟩ = some v1 ∧ w.frozen? ⟨g, 0, none⟩ = false ∧ w.frozen? ⟨g, 1, none⟩ = false :=
  ⟨h.lt, h.cell0 rfl, h.cell0 rfl, h.free 0, h.free 1⟩
theorem set2b {w w2 : World} {b p g : Nat} (hF : FrR b w w2) (hg : w.heap.size ≤ g) (v0 v1 : Value) :
    FrR b w ((w2.setCell ⟨g, 0, none⟩ v0).setCell ⟨g, 1, none⟩ v1) := (hF.setN hg _ _).setN hg _ _

/-- a port, drawn -/
def PortD (b p : Nat) (w : World) (e : Ending) (w' : World) : Prop :=
  ∃ (s : ByteArray) (at_ : Int), e = .returned (.agg #[.string s, .int .i64 at_]) ∧ s.size ≤ 20000 ∧ -1 ≤ at_ ∧ at_ ≤ s.size + 1 ∧ FrR b w w'

set_option maxHeartbeats 4000000 in
set_option maxRecDepth 100000 in
theorem port_any (w : World) (b p : Nat) (h : Rd w b p) (hp : p ≤ 100000) : Calls Tryd.prog 44 #[.pointer (some ⟨b, 0, none⟩)] w (PortD b p w) := by
  have hb := h.lt
  have B0 := Blk.new w #[.string ⟨#[]⟩, .int .i64 0] 25
  have hB0 := below1 w (.cells #[.string ⟨#[]⟩, .int .i64 0] 25)
  have hR0 := h.below hB0
  have hne : w.heap.size ≠ b := by omega
  have HS1 := Lib.hid (source_any _ b p hR0 (by omega))
  go_enter Tryd.func44, Tryd.ntmps44
  go_upto_region 2 with (first | (go_at_call 59; refine (of_lit qP w1 b p1 _ _ _ _ hR1 (by omega) (by decide +kernel) (by rfl) (by decide) (by decide)).mono ?_; rintro e w2 ⟨s2, rfl, hs2, hR2, hF2⟩; have hz2 := of_decide_eq_true hs2) | (go_at_call 58; refine HS1.out.mono ?_; rintro e w1 hd; obtain ⟨s1, p1, rfl, hs1, hR1, hp1, hF1⟩ := hd))
  have B2 := hF2.blk (hF1.blk B0 hne) hne
  have hF3 := ((FrR.of_below hB0).trans hF1).trans hF2
  have hsz : (s1 ++ s2).size ≤ 5015 := by rw [ByteArray.size_append]; omega
  clear B0 hB0 hR0 HS1 hF1 hF2 hR1 hs1 hs2 hz2
  generalize s1 ++ s2 = s3 at *
  have HP3 := Lib.hid (pick_any w2 b (p1 + 1) 3 hR2 (by omega) (by omega))
  go_upto_if 12 with (go_at_call 60; refine HP3.out.mono ?_; rintro e w3 hd; obtain ⟨k3, rfl, _, _, hR3, hF4⟩ := hd)
  have HS2 := Lib.hid (source_any _ b (p1 + 1 + 1) hR3 (by omega))
  have B3 := hF4.blk B2 hne
  have hF5 := hF3.trans hF4
  clear HP3 B2 hF3 hF4 hR2
  go_cut [3] (fun v wc => ∃ (s : ByteArray) (p4 : Nat), v = .string s ∧ s.size ≤ 20000 ∧ Rd wc b p4 ∧ p4 ≤ p1 + 20005 ∧ FrR b w wc ∧ Blk wc w.heap.size #[.string ⟨#[]⟩, .int .i64 0] 25)
  case first =>
    go_wp2_with (go_at_call 58; refine HS2.out.mono ?_; rintro e w4 hd; obtain ⟨s4, p4, rfl, hs4, hR4, hp4, hF6⟩ := hd)
    · go_meet
      case rel => exact ⟨_, p4, rfl, by rw [ByteArray.size_append]; omega, hR4, by omega, hF5.trans hF6, hF6.blk B3 hne⟩
    · go_meet
      case rel => exact ⟨_, p1 + 2, rfl, by omega, hR3, by omega, hF5, B3⟩
  case rest =>
    clear HS2 B3 hF5 hR3 hsz
    obtain ⟨s, p4, rfl, hsz, hR4, hp4, hF5, B4⟩ := hcut
    have HP20 := Lib.hid (pick_any wc b p4 20 hR4 (by omega) (by omega))
    go_upto_if 19 with (go_at_call 60; refine HP20.out.mono ?_; rintro e w5 hd; obtain ⟨k5, rfl, _, _, hR5, hF6⟩ := hd)
    have B5 := hF6.blk B4 hne
    have hF7 := hF5.trans hF6
    clear HP20 B4 hF5 hF6 hR4
    have hs0 : (0 : Int) ≤ s.size := by omega
    by_cases h0 : k5 = 0
    · subst h0
      have BR := Blk.new w5 #[.int .i64 (-1), .int .i64 ((s.size : Int) + 1)] 3
      have hbr := below1 w5 (.cells #[.int .i64 (-1), .int .i64 ((s.size : Int) + 1)] 3)
      have hbne : w5.heap.size ≠ b := by have := hR5.lt; omega
      have HP2 := Lib.hid (pick_any _ b (p4 + 1) 2 (hR5.below hbr) (by omega) (by omega))
      have B6 := B5.below hbr
      have hF8 := hF7.trans (FrR.of_below hbr)
      clear B5 hbr hR5 hF7
      go_wp2_with (go_at_call 60; refine HP2.out.mono ?_; rintro e w6 hd; obtain ⟨k6, rfl, hk6, _, hR6, hF9⟩ := hd; replace hk6 := hk6 (by decide); have hk60 : (0 : Int) ≤ k6 := (by omega); obtain ⟨z, hz, hzz⟩ := row2_at (hF9.blk BR hbne) hk6; have HZZ := Lib.hid hzz; clear hzz; obtain ⟨hl, b0, b1, f0, f1⟩ := facts2 (hF9.blk B6 hne))
      have hzz := HZZ.out
      refine bodyPost_ret (v := .agg #[.string s, .int .i64 z]) (by simp [results, Tryd.results44, go_sem, b0, b1, f0, f1, hl]) rfl ?_
      exact ⟨s, z, rfl, hsz, by omega, by omega, set2b (p := p) (hF8.trans hF9) (Nat.le_refl _) _ _⟩
    · have h0b : ((k5 : Int) == 0) = false := by rw [beq_eq_false_iff_ne]; omega
      have HPS := Lib.hid (pick_any w5 b (p4 + 1) ((s.size : Int) + 1) hR5 (by omega) (by omega))
      go_wp2_with (first | (go_at_call 60; refine HP2.out.mono ?_; rintro e w7 hd; obtain ⟨k7, rfl, hk7, _, hR7, hF9⟩ := hd; replace hk7 := hk7 (by decide); have hk70 : (0 : Int) ≤ k7 := (by omega); obtain ⟨hl, b0, b1, f0, f1⟩ := facts2 (hF9.blk B6 hne)) | (go_at_call 60; refine HPS.out.mono ?_; rintro e w6 hd; obtain ⟨k6, rfl, hk6, _, hR6, hF8⟩ := hd; replace hk6 := hk6 (by omega); have hk60 : (0 : Int) ≤ k6 := (by omega); have B6 := hF8.blk B5 hne; have HP2 := Lib.hid (pick_any w6 b (p4 + 1 + 1) 2 hR6 (by omega) (by omega))))
      have hkk : (k6 : Int) * k7 = 0 ∨ (k6 : Int) * k7 = k6 := by
        rcases (show k7 = 0 ∨ k7 = 1 by omega) with rfl | rfl
        · exact .inl (Int.mul_zero _)
        · exact .inr (Int.mul_one _)
      have hww : wrap64 ((k6 : Int) * k7) = k6 * k7 := by unfold wrap64; omega
      refine bodyPost_ret (v := .agg #[.string s, .int .i64 (wrap64 (k6 * k7))]) (by simp [results, Tryd.results44, go_sem, b0, b1, f0, f1, hl]) rfl ?_
      exact ⟨s, _, rfl, hsz, by omega, by omega, set2b (p := p) ((hF7.trans hF8).trans hF9) (Nat.le_refl _) _ _⟩

/-- bytes that came in -/
def Bytes (w : World) (a : Option Addr) (m : Nat) : Prop :=
  m ≠ 0 → ∃ cb o, a = some ⟨cb, o, none⟩ ∧ cb < w.heap.size ∧ ∀ i, i < m → ∃ x : Int, w.cell? ⟨cb, o + i, none⟩ = some (.int .u8 x) ∧ 0 ≤ x ∧ x < 256
def OpenPost (w : World) (e : Ending) (w' : World) : Prop := e = .returned (.pointer (some ⟨w.heap.size, 0, none⟩)) ∧ Rd w' w.heap.size 0 ∧ Below w.heap.size w w'
theorem rd_new (w : World) (a : Option Addr) (m n c : Nat) (h : Bytes w a m) (hn : n ≤ m) (h2 : n ≤ 2000) : Rd (w.alloc (.cells #[.slice a n c, .int .i64 0] 99)) w.heap.size 0 := by
  refine ⟨_, Blk.new w _ _, a, n, c, rfl, h2, fun h0 => ?_⟩
  obtain ⟨cb, o, h3, h4, h5⟩ := h (by omega)
  refine ⟨cb, o, h3, h4, fun i hi => ?_⟩
  obtain ⟨x, h6, h7⟩ := h5 i (by omega)
  exact ⟨x, ((below1 w _).cell (p := ⟨cb, o + i, none⟩) h4).trans h6, h7⟩

set_option maxRecDepth 100000 in
theorem open_any (w : World) (a : Option Addr) (m c : Nat) (h : Bytes w a m) (hm : m ≤ 2000000) (hc : m ≤ c) : Calls Tryd.prog 45 #[.slice a m c] w (OpenPost w) := by
  have hm0 : (0 : Int) ≤ m := by omega
  by_cases hb : 2000 < m
  · obtain ⟨cb, o, rfl, _⟩ := id (h (by omega))
    have hR := Lib.hid (rd_new w _ m 2000 c h (by omega) (by omega))
    have hbI : (2000 : Int) < m := by omega
    have hcI : (2000 : Int) ≤ c := by omega
    have HH := Lib.hid h
    clear h
    go_enter Tryd.func45, Tryd.ntmps45
    go_wp2
    go_ret
    exact ⟨rfl, hR.out, below1 _ _⟩
  · have hR := Lib.hid (rd_new w a m m c h (by omega) (by omega))
    have hbI : ¬ (2000 : Int) < m := by omega
    have HH := Lib.hid h
    clear h
    go_enter Tryd.func45, Tryd.ntmps45
    go_wp2
    go_ret
    exact ⟨rfl, hR.out, below1 _ _⟩

def DrawPost (w : World) (e : Ending) (w' : World) : Prop :=
  ∃ (s : ByteArray) (at_ : Int), e = .returned (.agg #[.string s, .int .i64 at_]) ∧ s.size ≤ 20000 ∧ -1 ≤ at_ ∧ at_ ≤ s.size + 1 ∧ Below w.heap.size w w'

set_option maxHeartbeats 1000000 in
set_option maxRecDepth 100000 in
theorem draw_any (w : World) (a : Option Addr) (m c : Nat) (h : Bytes w a m) (hm : m ≤ 2000000) (hc : m ≤ c) : Calls Tryd.prog 18 #[.slice a m c] w (DrawPost w) := by
  have B0 := Blk.new w #[.string ⟨#[]⟩, .int .i64 0] 25
  have hB0 := below1 w (.cells #[.string ⟨#[]⟩, .int .i64 0] 25)
  have hby : Bytes (w.alloc (.cells #[.string ⟨#[]⟩, .int .i64 0] 25)) a m := fun h0 => by
    obtain ⟨cb, o, h3, h4, h5⟩ := h h0
    refine ⟨cb, o, h3, by simp; omega, fun i hi => ?_⟩
    obtain ⟨x, h6, h7⟩ := h5 i hi
    exact ⟨x, (hB0.cell (p := ⟨cb, o + i, none⟩) h4).trans h6, h7⟩
  have hsz : (w.alloc (.cells #[.string ⟨#[]⟩, .int .i64 0] 25)).heap.size = w.heap.size + 1 := by simp
  have HO : Hid (Calls Tryd.prog 45 #[.slice a m c] (w.alloc (.cells #[.string ⟨#[]⟩, .int .i64 0] 25)) fun e w1 => e = .returned (.pointer (some ⟨w.heap.size + 1, 0, none⟩)) ∧ Rd w1 (w.heap.size + 1) 0 ∧ Below (w.heap.size + 1) (w.alloc (.cells #[.string ⟨#[]⟩, .int .i64 0] 25)) w1) :=
    (open_any _ a m c hby hm hc).mono fun e w1 hd => by
      obtain ⟨h1, h2, h3⟩ := hd
      rw [hsz] at h1 h2 h3
      exact ⟨h1, h2, h3⟩
  have HH := Lib.hid h
  clear h hby
  go_enter Tryd.func18, Tryd.ntmps18
  go_wp2_with (first | (go_at_call 44; refine HPT.out.mono ?_; rintro e w2 hd; obtain ⟨s, z, rfl, hs, hz1, hz2, hF2⟩ := hd; have HF2 := Lib.hid hF2; have B2 := hF2.blk B1 (by omega); obtain ⟨hl, b0, b1, f0, f1⟩ := facts2 B2) | (go_at_call 45; refine HO.out.mono ?_; rintro e w1 ⟨rfl, hR1, hb1⟩; have B1 := B0.carry hb1 (Nat.lt_succ_self _); have HB1 := Lib.hid hb1; have HPT := Lib.hid (port_any w1 (w.heap.size + 1) 0 hR1 (by omega))))
  refine bodyPost_ret (v := .agg #[.string s, .int .i64 z]) (by simp [results, Tryd.results18, go_sem, b0, b1, f0, f1, hl]) rfl ?_
  have hs1 := HB1.out.size
  rw [hsz] at hs1
  have hb2 : Below w.heap.size w w2 := (hB0.trans (HB1.out.mono (Nat.le_succ _))).trans (HF2.out.below (Nat.le_succ _) (by omega))
  exact ⟨s, z, rfl, hs, hz1, hz2, (hb2.setCell (Nat.le_refl _) _).setCell (Nat.le_refl _) _⟩
end Go.Proofs.YtjpkmcaogekkdaaDoor.Dw
