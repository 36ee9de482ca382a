/- The reference's draws: a node, walked. -/
import Derived.Test.YtjpkmcaogekkdaaDoorDwB
import Derived.Test.YtjpkmcaogekkdaaDoorGrC
import Derived.Test.YtjpkmcaogekkdaaDoorRmK2
import Derived.Deep.RegionLaw
namespace Go.Proofs.YtjpkmcaogekkdaaDoor.Dw
open Go.RowKit Go.Proofs.YtjpkmcaogekkdaaDoor.Rm Go.Proofs.YtjpkmcaogekkdaaDoor.Nu Go.Proofs.YtjpkmcaogekkdaaDoor.Wr Go.Proofs.YtjpkmcaogekkdaaDoor.Gr
set_option linter.unusedVariables false
set_option linter.unusedSimpArgs false

theorem OwnRow.two (w : World) (lo : Nat) (x y : Int) (h : lo ≤ w.heap.size) : OwnRow (w.alloc (.cells #[.int .i64 x, .int .i64 y] 3)) lo (.slice (some ⟨w.heap.size, 0, none⟩) 2 2) [x, y] :=
  ⟨by simp [icells], .inr ⟨w.heap.size, 2, _, rfl, h, heap_alloc_new w _, Nat.le_refl 2, (by simp [maxLen]), rfl, by simp [icells]⟩⟩
theorem OwnRow.mem {w w' : World} {lo : Nat} {v : Value} {xs : List Int} (h : OwnRow w lo v xs) (hw : ∀ g, lo ≤ g → g < w.heap.size → w'.heap[g]? = w.heap[g]?) : OwnRow w' lo v xs :=
  OwnRow.carry h fun g hg => hw g (OwnRow.above h g hg) (World.ownsRow.lt h g hg).2

def qC (s : ByteArray) : Bool := decide (s.size ≤ 1000) && decide (0 < szAll s)
def qS (s : ByteArray) : Bool := decide (s.size ≤ 1000)
def NodePost (b p : Nat) (w : World) (e : Ending) (w' : World) : Prop :=
  ∃ (s : Int) (t : ByteArray) (kv : Value) (ks : List Int) (p' : Nat), e = .returned (.agg #[.int .i64 s, .string t, kv]) ∧ t.size ≤ 1000 ∧ (s = 4 → 0 < szAll t) ∧ OwnRow w' w.heap.size kv ks ∧ ks.length ≤ 3 ∧ Rd w' b p' ∧ p' ≤ p + 400 ∧ FrR b w w'

/-- what the node's own block is, behind a call -/
def Zn (w : World) (g : Nat) : Prop := Blk w g #[.int .i64 0, .string ⟨#[]⟩, .slice none 0 0] 58
theorem Zn.facts {w : World} {g : Nat} (h : Zn w g) : g < w.heap.size ∧ w.cell? ⟨g, 0, none⟩ = some (.int .i64 0) ∧ w.cell? ⟨g, 1, none⟩ = some (.string ⟨#[]⟩) ∧ w.cell? ⟨g, 2, none⟩ = some (.slice none 0 0) ∧ w.frozen? ⟨g, 0, none⟩ = false ∧ w.frozen? ⟨g, 1, none⟩ = false ∧ w.frozen? ⟨g, 2, none⟩ = false :=
  ⟨Blk.lt h, Blk.cell0 h rfl, Blk.cell0 h rfl, Blk.cell0 h rfl, Blk.free h 0, Blk.free h 1, Blk.free h 2⟩

theorem set3 {w w2 : World} {b p g : Nat} (hF : FrR b w w2) (hR : Rd w2 b p) (hb : b < g) (hg : w.heap.size ≤ g) (v0 v1 v2 : Value) :
    FrR b w (((w2.setCell ⟨g, 0, none⟩ v0).setCell ⟨g, 1, none⟩ v1).setCell ⟨g, 2, none⟩ v2) ∧ Rd (((w2.setCell ⟨g, 0, none⟩ v0).setCell ⟨g, 1, none⟩ v1).setCell ⟨g, 2, none⟩ v2) b p :=
  ⟨((hF.setN hg _ _).setN hg _ _).setN hg _ _, ((hR.setN hb _ _).setN hb _ _).setN hb _ _⟩
theorem qC_1 {s : ByteArray} (h : qC s = true) : s.size ≤ 1000 := by
  simp only [qC, Bool.and_eq_true, decide_eq_true_eq] at h
  exact h.1
theorem qC_2 {s : ByteArray} (h : qC s = true) : 0 < szAll s := by
  simp only [qC, Bool.and_eq_true, decide_eq_true_eq] at h
  exact h.2

/-- only block b and one row may have changed -/
structure FrX (b : Nat) (o : Option Nat) (w w' : World) : Prop where
  os : w'.os = w.os
  tape : w'.tape = w.tape
  output : w'.output = w.output
  size : w.heap.size ≤ w'.heap.size
  keep : ∀ g, g < w.heap.size → g ≠ b → o ≠ some g → w'.heap[g]? = w.heap[g]?
theorem FrX.onto {b : Nat} {o : Option Nat} {W w w' : World} (h : FrR b W w) (k : FrX b o w w') (ho : ∀ g, o = some g → W.heap.size ≤ g) : FrR b W w' :=
  ⟨k.os.trans h.os, k.tape.trans h.tape, k.output.trans h.output, Nat.le_trans h.size k.size, fun g hg hne => (k.keep g (Nat.lt_of_lt_of_le hg h.size) hne (fun e => by have := ho g e; omega)).trans (h.keep g hg hne)⟩
def appRun (w w6 : World) (kv : Value) (k g2 n cap2 : Nat) : Prop :=
  (Builtin.append_ #[32, 32] 32 #[kv, .slice (some ⟨w.heap.size, 0, none⟩) 1 1]).run Tryd.prog (w.alloc (.cells #[.int .i64 k] 3)) = .ok (.slice (some ⟨g2, 0, none⟩) (n + 1) cap2) w6
def PickApp (b p gB : Nat) (C : Array Value) (t : TypeId) (lo : Nat) (kv : Value) (ks : List Int) (w : World) (e : Ending) (w4 : World) : Prop :=
  ∃ (k g2 cap2 : Nat) (w6 : World), e = .returned (.int .i64 k) ∧ appRun w4 w6 kv k g2 ks.length cap2 ∧ OwnRow w6 lo (.slice (some ⟨g2, 0, none⟩) (ks.length + 1) cap2) (ks ++ [(k : Int)]) ∧ Blk w4 gB C t ∧ Blk w6 gB C t ∧ Rd w6 b (p + 1) ∧ FrX b kv.ownBlock w w6
/-- a number picked and put behind a row of one's own -/
theorem pick_app (w : World) (b p : Nat) (n : Int) (gB : Nat) (C : Array Value) (t : TypeId) (lo : Nat) (kv : Value) (ks : List Int) (h : Rd w b p) (hp : p ≤ 1000000) (hn : 0 ≤ n ∧ n ≤ 1000) (hB : Blk w gB C t) (hgb : gB ≠ b) (hlo : b < lo) (hgl : gB < lo) (hls : lo ≤ w.heap.size) (hk : OwnRow w lo kv ks) (hl : ks.length ≤ 1000) :
    Calls Tryd.prog 60 #[.pointer (some ⟨b, 0, none⟩), .int .i64 n] w (PickApp b p gB C t lo kv ks w) := by
  refine (pick_any w b p n h hp (by omega)).mono ?_
  rintro e w4 ⟨k, rfl, _, _, hR, hF⟩
  have hk4 : OwnRow w4 lo kv ks := OwnRow.mem hk fun g hg hs => hF.keep g hs (by omega)
  have hB4 := hF.blk hB hgb
  have hl4 := Nat.le_trans hls hF.size
  obtain ⟨g2, cap2, w6, e1, e2, e3, e4, e5⟩ := append_int w4 lo kv ks k hk4 hl4 (by omega)
  have hb4 : kv.ownBlock ≠ some b := fun e => by have := OwnRow.above hk4 b e; omega
  have hg4 : kv.ownBlock ≠ some gB := fun e => by have := OwnRow.above hk4 gB e; omega
  refine ⟨k, g2, cap2, w6, rfl, e1, e2, hB4, (e3.block gB hB4.lt (fun e => hg4 e.symm)).trans hB4, ?_, ?_⟩
  · refine hR.carry ⟨e3.os, e3.tape, e3.output, e3.size, fun g hg => e3.block g (by have := hR.lt; omega) (fun e => ?_)⟩
    have := OwnRow.above hk4 g e.symm
    omega
  · exact ⟨e3.os.trans hF.os, e3.tape.trans hF.tape, e3.output.trans hF.output, Nat.le_trans hF.size e3.size, fun g hg hne ho => (e3.block g (Nat.lt_of_lt_of_le hg hF.size) (fun e => ho e.symm)).trans (hF.keep g hg hne)⟩

set_option maxHeartbeats 4000000 in
set_option maxRecDepth 100000 in
theorem node_draw (w : World) (b p : Nat) (n : Int) (h : Rd w b p) (hp : p ≤ 700000) (hn : 0 ≤ n ∧ n ≤ 1000) : Calls Tryd.prog 71 #[.pointer (some ⟨b, 0, none⟩), .int .i64 n] w (NodePost b p w) := by
  have hb := h.lt
  have B0 : Zn (w.alloc (.cells #[.int .i64 0, .string ⟨#[]⟩, .slice none 0 0] 58)) w.heap.size := Blk.new w _ _
  have hB0 := below1 w (.cells #[.int .i64 0, .string ⟨#[]⟩, .slice none 0 0] 58)
  have hR0 := h.below hB0
  have hne : w.heap.size ≠ b := by omega
  have HP1 := Lib.hid (pick_any _ b p 12 hR0 (by omega) (by omega))
  go_enter Tryd.func71, Tryd.ntmps71
  go_upto_region 2 with (go_at_call 60; refine HP1.out.mono ?_; rintro e w1 hd; obtain ⟨k1, rfl, hk1, _, hR1, hF1⟩ := hd; replace hk1 := hk1 (by decide); have hk10 : (0 : Int) ≤ k1 := (by omega))
  have B1 : Zn w1 w.heap.size := hF1.blk B0 hne
  have hF1 := (FrR.of_below hB0).trans hF1
  clear HP1 hR0 hB0 B0
  by_cases h7 : k1 = 7
  · subst h7
    have BN := Blk.new w1 #[.int .i64 8, .string ⟨#[]⟩, .slice none 0 0] 58
    have hR2 := hR1.below (below1 w1 (.cells #[.int .i64 8, .string ⟨#[]⟩, .slice none 0 0] 58))
    have hF2 := hF1.trans (FrR.of_below (below1 w1 (.cells #[.int .i64 8, .string ⟨#[]⟩, .slice none 0 0] 58)))
    have B2 : Zn _ w.heap.size := Blk.alloc B1 (.cells #[.int .i64 8, .string ⟨#[]⟩, .slice none 0 0] 58)
    have hgl : w.heap.size < w1.heap.size := Blk.lt B1
    have HP4 := Lib.hid (pick_any _ b (p + 1) 4 hR2 (by omega) (by omega))
    go_wp2_with (go_at_call 60; refine HP4.out.mono ?_; rintro e w2 hd; obtain ⟨k2, rfl, hk2, _, hR3, hF3⟩ := hd; replace hk2 := hk2 (by decide); have hk20 : (0 : Int) ≤ k2 := (by omega))
    have BN3 := hF3.blk BN (by omega)
    have hg1 := hgl
    generalize hgN : w1.heap.size = gN at *
    have B3 : Zn w2 w.heap.size := hF3.blk B2 hne
    have hF4 := hF2.trans hF3
    have hgs : gN < w2.heap.size := BN3.lt
    clear HP4 hF3 hF2 BN B2 hR2
    go_loopw [6] (fun i wr => ∃ (j p3 : Nat) (kv : Value) (ks : List Int), i = .int .i64 j ∧ j + ks.length ≤ 3 ∧ Blk wr gN #[.int .i64 8, .string ⟨#[]⟩, kv] 58 ∧ OwnRow wr (gN + 1) kv ks ∧ Rd wr b p3 ∧ p3 + j ≤ p + 5 ∧ FrR b w wr ∧ Zn wr w.heap.size) (fun i wr => (intOf i).toNat)
    case atStart => exact ⟨k2, p + 1 + 1, _, [], rfl, by simp; omega, BN3, World.ownsRow_nil _ _ _ _, hR3, by omega, hF4, B3⟩
    case round =>
      clear BN3 B3 hF4 hR3 hk2 hk20
      obtain ⟨j, p3, kv, ks, rfl, hj, hBN, hkv, hR, hp3, hF, hZ⟩ := hrel
      have hj0 : (0 : Int) ≤ j := by omega
      by_cases hlt : 0 < j
      · have hHP := pick_app wr.drew b p3 n gN _ 58 (gN + 1) kv ks (h := hR) (by omega) hn (hBN.drew) (by omega) (by omega) (by omega) hBN.lt hkv (by omega)
        have HPA := Lib.hid hHP
        have c2 := hBN.drew.cell0 (o := 2) (v := kv) rfl
        have hKS := Lib.hid (OwnRow.shape hkv)
        have hgw : gN < wr.heap.size := hBN.lt
        obtain ⟨ka, kc, hks, _⟩ := hKS.out
        have HKS := Lib.hid hks
        clear hks hHP
        go_wp2_with fail
        go_region_law (first | (simp only [Region.wanted, ↓reduceIte]; (refine wp_append_run (v := kv) (xv := .slice (some ⟨w4.heap.size, 0, none⟩) 1 1) (v' := .slice (some ⟨g2, 0, none⟩) (ks.length + 1) cap2) (w' := w6) (.tmp 55) (.tmp 59) 32 ?_ ?_ ?_ ?_ ?_; rfl; rfl; rfl; exact HAPP.out)) | (go_simp; go_at_call 60; refine HPA.out.mono ?_; rintro e w4 hd; obtain ⟨k4, g2, cap2, w6, rfl, happ, hk6, hB4, hB6, hR6, hX6⟩ := hd; have HAPP := Lib.hid happ; clear happ; have d2 := hB4.cell0 (o := 2) (v := kv) rfl; have d4 := hB4.lt; have z2 := hB6.cell0 (o := 2) (v := kv) rfl; have zf2 := hB6.free 2; have z4 := hB6.lt; dsimp only) | fail)
        all_goals
          go_wp2
          have hab : ∀ g, kv.ownBlock = some g → gN + 1 ≤ g := fun g hg => OwnRow.above hkv g hg
          have hZ6 : Zn w6 w.heap.size := (hX6.keep _ (Blk.lt hZ) hne (fun e => by have := hab _ e; omega)).trans hZ
          refine ⟨⟨j - 1, p3 + 1, _, ks ++ [(k4 : Int)], congrArg (Value.int .i64) (by omega), by simp; omega, hB6.set 2 _, OwnRow.far hk6 (by omega) 2 _, hR6.setN (by omega) 2 _, by omega, (FrX.onto hF.drew hX6 (fun g hg => by have := hab g hg; omega)).setN (by omega) 2 _, Blk.far hZ6 (by omega) 2 _⟩, by simp [intOf]; omega⟩
      · obtain ⟨ka, kc, rfl, _⟩ := OwnRow.shape hkv
        have c0 := hBN.cell0 (o := 0) (v := .int .i64 8) rfl
        have c1 := hBN.cell0 (o := 1) (v := .string ⟨#[]⟩) rfl
        have c2 := hBN.cell0 (o := 2) (v := .slice ka ks.length kc) rfl
        obtain ⟨hl3, b0, b1, b2, f0, f1, f2⟩ := hZ.facts
        have hgne : gN ≠ w.heap.size := by omega
        have HKV := Lib.hid hkv
        clear hkv
        go_wp2
        have hS := set3 hF hR hb (Nat.le_refl _) (.int .i64 8) (.string ⟨#[]⟩) (.slice ka ks.length kc)
        refine bodyPost_ret (v := .agg #[.int .i64 8, .string ⟨#[]⟩, .slice ka ks.length kc]) (by simp [results, Tryd.results71, go_sem, b0, b1, b2, f0, f1, f2, hl3]) rfl ?_
        have hk3 : ks.length ≤ 3 := by omega
        exact ⟨8, _, _, ks, _, rfl, by decide, by omega, OwnRow.weak (lo := gN + 1) (OwnRow.far (OwnRow.far (OwnRow.far HKV.out (by omega) 0 _) (by omega) 1 _) (by omega) 2 _) (by omega), hk3, hS.2, by omega, hS.1⟩
  · obtain ⟨hl1, b0, b1, b2, f0, f1, f2⟩ := B1.facts
    have h7' : ((k1 : Int) == 7) = false := by rw [beq_eq_false_iff_ne]; omega
    go_wp2_with (first | (go_at_call 83; refine (NumPrint_any _ _ _ _ (by omega) (by omega)).mono ?_; rintro e w3 hd; obtain ⟨r, rfl, hr, hb3⟩ := hd; obtain ⟨hl3, b0, b1, b2, f0, f1, f2⟩ := (show Zn w3 w.heap.size from Blk.below B2 hb3).facts) | (go_at_call 84; refine (num_any _ b (p + 1) hR1 (by omega)).mono ?_; rintro e w2 hd; obtain ⟨neg, u, d, p2, rfl, hu, hdd, hR2, hp2, hF2⟩ := hd; have B2 : Zn w2 w.heap.size := hF2.blk B1 hne) | (go_at_call 85; refine (lit_text _ b (p + 1) hR1 (by omega)).mono ?_; rintro e w2 ⟨s, rfl, hs, hR2, hF2⟩; obtain ⟨hl2, b0, b1, b2, f0, f1, f2⟩ := (show Zn w2 w.heap.size from hF2.blk B1 hne).facts) | (go_at_call 59; refine (of_lit qC w1 b (p + 1) _ _ _ _ hR1 (by omega) (by decide +kernel) (by rfl) (by decide) (by decide)).mono ?_; rintro e w2 ⟨s, rfl, hs, hR2, hF2⟩; obtain ⟨hl2, b0, b1, b2, f0, f1, f2⟩ := (show Zn w2 w.heap.size from hF2.blk B1 hne).facts) | (go_at_call 59; refine (of_lit qS w1 b (p + 1) _ _ _ _ hR1 (by omega) (by decide +kernel) (by rfl) (by decide) (by decide)).mono ?_; rintro e w2 ⟨s, rfl, hs, hR2, hF2⟩; obtain ⟨hl2, b0, b1, b2, f0, f1, f2⟩ := (show Zn w2 w.heap.size from hF2.blk B1 hne).facts) | (go_at_call 60; refine (pick_any _ b (p + 1 + 1) n hR2 (by omega) (by omega)).mono ?_; rintro e w3 hd; obtain ⟨k3, rfl, _, _, hR3, hF3⟩ := hd; obtain ⟨hl3, b0, b1, b2, f0, f1, f2⟩ := (show Zn w3 w.heap.size from hF3.blk B2 hne).facts) | (go_at_call 60; refine (pick_any _ b (p + 1) n hR1 (by omega) (by omega)).mono ?_; rintro e w2 hd; obtain ⟨k2, rfl, _, _, hR2, hF2⟩ := hd; have B2 : Zn w2 w.heap.size := hF2.blk B1 hne))
    · have hS := set3 (hF1.trans (hF2.trans (FrR.of_below hb3))) (hR2.below hb3) hb (Nat.le_refl _) (.int .i64 1) (.string r) (.slice none 0 0)
      refine bodyPost_ret (v := .agg #[.int .i64 1, .string r, .slice none 0 0]) (by simp [results, Tryd.results71, go_sem, b0, b1, b2, f0, f1, f2, hl3]) rfl ?_
      exact ⟨1, r, _, [], _, rfl, by omega, by omega, World.ownsRow_nil _ _ _ _, by decide, hS.2, by omega, hS.1⟩
    · have hS := set3 (hF1.trans hF2) hR2 hb (Nat.le_refl _) (.int .i64 2) (.string s) (.slice none 0 0)
      refine bodyPost_ret (v := .agg #[.int .i64 2, .string s, .slice none 0 0]) (by simp [results, Tryd.results71, go_sem, b0, b1, b2, f0, f1, f2, hl2]) rfl ?_
      exact ⟨2, s, _, [], _, rfl, qC_1 hs, by omega, World.ownsRow_nil _ _ _ _, by decide, hS.2, by omega, hS.1⟩
    · have hS := set3 (hF1.trans hF2) hR2 hb (Nat.le_refl _) (.int .i64 2) (.string s) (.slice none 0 0)
      refine bodyPost_ret (v := .agg #[.int .i64 2, .string s, .slice none 0 0]) (by simp [results, Tryd.results71, go_sem, b0, b1, b2, f0, f1, f2, hl2]) rfl ?_
      exact ⟨2, s, _, [], _, rfl, qC_1 hs, by omega, World.ownsRow_nil _ _ _ _, by decide, hS.2, by omega, hS.1⟩
    · have hS := set3 (hF1.trans hF2) hR2 hb (Nat.le_refl _) (.int .i64 3) (.string s) (.slice none 0 0)
      refine bodyPost_ret (v := .agg #[.int .i64 3, .string s, .slice none 0 0]) (by simp [results, Tryd.results71, go_sem, b0, b1, b2, f0, f1, f2, hl2]) rfl ?_
      exact ⟨3, s, _, [], _, rfl, by have := of_decide_eq_true hs; omega, by omega, World.ownsRow_nil _ _ _ _, by decide, hS.2, by omega, hS.1⟩
    · have hS := set3 (hF1.trans hF2) hR2 hb (Nat.le_refl _) (.int .i64 4) (.string s) (.slice none 0 0)
      refine bodyPost_ret (v := .agg #[.int .i64 4, .string s, .slice none 0 0]) (by simp [results, Tryd.results71, go_sem, b0, b1, b2, f0, f1, f2, hl2]) rfl ?_
      exact ⟨4, s, _, [], _, rfl, qC_1 hs, fun _ => qC_2 hs, World.ownsRow_nil _ _ _ _, by decide, hS.2, by omega, hS.1⟩
    · have hS := set3 (hF1.trans hF2) hR2 hb (Nat.le_refl _) (.int .i64 5) (.string s) (.slice none 0 0)
      refine bodyPost_ret (v := .agg #[.int .i64 5, .string s, .slice none 0 0]) (by simp [results, Tryd.results71, go_sem, b0, b1, b2, f0, f1, f2, hl2]) rfl ?_
      exact ⟨5, s, _, [], _, rfl, qC_1 hs, by omega, World.ownsRow_nil _ _ _ _, by decide, hS.2, by omega, hS.1⟩
    · have hS := set3 (hF1.trans hF2) hR2 hb (Nat.le_refl _) (.int .i64 9) (.string s) (.slice none 0 0)
      refine bodyPost_ret (v := .agg #[.int .i64 9, .string s, .slice none 0 0]) (by simp [results, Tryd.results71, go_sem, b0, b1, b2, f0, f1, f2, hl2]) rfl ?_
      exact ⟨9, s, _, [], _, rfl, of_decide_eq_true hs, by omega, World.ownsRow_nil _ _ _ _, by decide, hS.2, by omega, hS.1⟩
    · have hS := set3 hF1 hR1 hb (Nat.le_refl _) (.int .i64 6) (.string ⟨#[]⟩) (.slice none 0 0)
      refine bodyPost_ret (v := .agg #[.int .i64 6, .string ⟨#[]⟩, .slice none 0 0]) (by simp [results, Tryd.results71, go_sem, b0, b1, b2, f0, f1, f2, hl1]) rfl ?_
      exact ⟨6, _, _, [], _, rfl, by decide, by omega, World.ownsRow_nil _ _ _ _, by decide, hS.2, by omega, hS.1⟩
    · have hS := set3 (hF1.trans (hF2.trans hF3)) hR3 hb (Nat.le_refl _) (.int .i64 7) (.string ⟨#[]⟩) (.slice (some ⟨w3.heap.size, 0, none⟩) 2 2)
      refine bodyPost_ret (v := .agg #[.int .i64 7, .string ⟨#[]⟩, .slice (some ⟨w3.heap.size, 0, none⟩) 2 2]) (by simp [results, Tryd.results71, go_sem, b0, b1, b2, f0, f1, f2, hl3]) rfl ?_
      have hT := OwnRow.two (((w3.setCell ⟨w.heap.size, 0, none⟩ (.int .i64 7)).setCell ⟨w.heap.size, 1, none⟩ (.string ⟨#[]⟩)).setCell ⟨w.heap.size, 2, none⟩ (.slice (some ⟨w3.heap.size, 0, none⟩) 2 2)) w.heap.size k2 k3 (by simp; omega)
      simp only [World.size_setCell] at hT
      exact ⟨7, _, _, [(k2 : Int), k3], _, rfl, by decide, by omega, hT, by simp, hS.2.below (below1 _ _), by omega, hS.1.alloc _⟩
end Go.Proofs.YtjpkmcaogekkdaaDoor.Dw
