/- The reference's draws: data, walked. -/
import Derived.Test.YtjpkmcaogekkdaaDoorDwC
import Derived.Deep.LoopGhost
import Derived.Deep.DeepCutAuto
import Derived.Deep.CutBlock
namespace Go.Proofs.YtjpkmcaogekkdaaDoor.Dw
open Go.RowKit Go.Proofs.YtjpkmcaogekkdaaDoor.Rm Go.Proofs.YtjpkmcaogekkdaaDoor.Nu Go.Proofs.YtjpkmcaogekkdaaDoor.Wr Go.Proofs.YtjpkmcaogekkdaaDoor.Gr
set_option linter.unusedVariables false
set_option linter.unusedSimpArgs false

theorem OwnRow.set {w : World} {lo g c : Nat} {xs : List Int} (h : OwnRow w lo (.slice (some ⟨g, 0, none⟩) xs.length c) xs) (k : Nat) (x : Int) :
    OwnRow (w.setCell ⟨g, k, none⟩ (.int .i64 x)) lo (.slice (some ⟨g, 0, none⟩) xs.length c) (xs.set k x) := by
  obtain ⟨h1, ⟨h2, _⟩ | ⟨g', cap, cur, he, hb, hg, hc, hm, hs, ht⟩⟩ := h
  · simp at h2
  · injection he with e1 e2 e3
    injection e1 with e1
    injection e1 with e1 _ _
    subst e1 e3
    have hB : Blk w g cur 3 := hg
    refine ⟨by simp [icells], .inr ⟨g, c, _, by rw [List.length_set], hb, hB.set k (.int .i64 x), by rwa [List.length_set], hm, by simpa using hs, ?_⟩⟩
    rw [Array.toList_setIfInBounds, List.length_set, List.take_set, ht, icells, icells, List.map_set]
theorem OwnRow.at {w : World} {lo : Nat} {v : Value} {xs : List Int} (h : OwnRow w lo v xs) {k : Nat} (hk : k < xs.length) :
    ∃ (g c : Nat) (x : Int), v = .slice (some ⟨g, 0, none⟩) xs.length c ∧ lo ≤ g ∧ g < w.heap.size ∧ w.cell? ⟨g, k, none⟩ = some (.int .i64 x) ∧ w.frozen? ⟨g, k, none⟩ = false := by
  obtain ⟨x, hx⟩ := getSome xs k hk
  obtain ⟨a, c, rfl, hs⟩ := OwnRow.shape h
  obtain ⟨g, rfl, h1, h2, h3⟩ := hs (by rintro rfl; simp at hk)
  refine ⟨g, c, x, rfl, h1, h2, h3 k x hx, ?_⟩
  obtain ⟨_, ⟨h4, _⟩ | ⟨g', cap, cur, he, _, hg, _⟩⟩ := h
  · simp at h4
  · injection he with e1 e2 e3
    injection e1 with e1
    injection e1 with e1 _ _
    subst e1
    exact Blk.free (show Blk w g cur 3 from hg) k

theorem OwnRow.at2 {w : World} {lo L c : Nat} {a : Option Addr} {xs : List Int} (h : OwnRow w lo (.slice a L c) xs) (hl : xs.length = L) {k : Nat} (hk : k < L) :
    ∃ (g : Nat) (x : Int), a = some ⟨g, 0, none⟩ ∧ lo ≤ g ∧ g < w.heap.size ∧ w.cell? ⟨g, k, none⟩ = some (.int .i64 x) ∧ w.frozen? ⟨g, k, none⟩ = false := by
  obtain ⟨g, c', x, hv, h1, h2, h3, h4⟩ := OwnRow.at h (show k < xs.length by omega)
  injection hv with e1 e2 e3
  exact ⟨g, x, e1, h1, h2, h3, h4⟩
theorem OwnRow.set2 {w : World} {lo g L c : Nat} {xs : List Int} (h : OwnRow w lo (.slice (some ⟨g, 0, none⟩) L c) xs) (hl : xs.length = L) (k : Nat) (x : Int) :
    OwnRow (w.setCell ⟨g, k, none⟩ (.int .i64 x)) lo (.slice (some ⟨g, 0, none⟩) L c) (xs.set k x) := by
  subst hl
  exact OwnRow.set h k x
theorem clr3 {w : World} {g : Nat} {v0 v1 v2 : Value} {t : TypeId} (h : Blk w g #[v0, v1, v2] t) (u0 u1 u2 : Value) :
    Blk (((w.setCell ⟨g, 0, none⟩ u0).setCell ⟨g, 1, none⟩ u1).setCell ⟨g, 2, none⟩ u2) g #[u0, u1, u2] t := ((h.set 0 u0).set 1 u1).set 2 u2
theorem wrap_rng (x : Int) : -9223372036854775808 ≤ IntKind.i64.wrap x ∧ IntKind.i64.wrap x ≤ 9223372036854775807 := by
  rw [IntKind.wrap_i64]
  omega
theorem FrR.then {b lo : Nat} {w w1 w2 : World} (h : FrR b w w1) (k : Below lo w1 w2) (hl : w.heap.size ≤ lo) : FrR b w w2 :=
  ⟨k.os.trans h.os, k.tape.trans h.tape, k.output.trans h.output, Nat.le_trans h.size k.size, fun g hg hne => (k.block g (by omega)).trans (h.keep g hg hne)⟩

/-- data, drawn -/
def DataPost (b p : Nat) (w : World) (e : Ending) (w' : World) : Prop :=
  ∃ (nv rv : Value) (ns : List Nd) (rs : List Int) (p' : Nat), e = .returned (.agg #[nv, rv]) ∧ ns ≠ [] ∧ Nodes w' (fun g => g < w'.heap.size) nv ns ∧ Ints w' (fun g => g < w'.heap.size) rv rs ∧ (∀ d ∈ ns, TxOk d) ∧ Rd w' b p' ∧ p' ≤ p + 10000 ∧ FrR b w w'

def Z38 (w : World) (g : Nat) (nv rv : Value) : Prop := Blk w g #[nv, rv] 38

set_option maxHeartbeats 8000000 in
set_option maxRecDepth 100000 in
theorem data_draw (w : World) (b p : Nat) (h : Rd w b p) (hp : p ≤ 600000) : Calls Tryd.prog 65 #[.pointer (some ⟨b, 0, none⟩)] w (DataPost b p w) := by
  have hb := h.lt
  have B0 : Z38 (w.alloc (.cells #[.slice none 0 0, .slice none 0 0] 38)) w.heap.size (.slice none 0 0) (.slice none 0 0) := Blk.new w _ _
  have hB0 := below1 w (.cells #[.slice none 0 0, .slice none 0 0] 38)
  have hR0 := h.below hB0
  have hne : w.heap.size ≠ b := by omega
  have HP1 := Lib.hid (pick_any _ b p 9 hR0 (by omega) (by omega))
  go_enter Tryd.func65, Tryd.ntmps65
  go_upto_region 2 with (go_at_call 60; refine HP1.out.mono ?_; rintro e w1 hd; obtain ⟨k1, rfl, hk1, _, hR1, hF1⟩ := hd; replace hk1 := hk1 (by decide); have hk10 : (0 : Int) ≤ k1 := (by omega))
  have B1 : Z38 w1 w.heap.size _ _ := hF1.blk B0 hne
  have hF1 := (FrR.of_below hB0).trans hF1
  clear HP1 hR0 hB0 B0
  have hl1 : w.heap.size < w1.heap.size := Blk.lt B1
  have BD : Z38 (w1.alloc (.cells #[.slice none 0 0, .slice none 0 0] 38)) w1.heap.size (.slice none 0 0) (.slice none 0 0) := Blk.new w1 _ _
  have hB2 := below1 w1 (.cells #[.slice none 0 0, .slice none 0 0] 38)
  have hR2 := hR1.below hB2
  have hF2 := hF1.trans (FrR.of_below hB2)
  have B2 : Z38 _ w.heap.size _ _ := Blk.below B1 hB2
  obtain ⟨N, hN⟩ : ∃ N : Nat, N = 1 + k1 := ⟨_, rfl⟩
  have hN9 : N ≤ 9 := by omega
  have hN1 : 1 ≤ N := by omega
  have hNI : (1 : Int) + k1 = N := by omega
  go_wp2_with fail
  rw [hNI]
  clear hNI
  have HN := Lib.hid hN
  clear hN
  generalize (w1.alloc (.cells #[.slice none 0 0, .slice none 0 0] 38)) = w2 at *
  generalize w1.heap.size = gD at *
  have hlD := Blk.lt BD
  go_loopg [5] N (fun gk i wr => ∃ (j hi p1 : Nat) (nv : Value) (ds : List Nd), i = .int .i64 j ∧ gk + j = N ∧ ds.length = j ∧ Z38 wr gD nv (.slice none 0 0) ∧ Z38 wr w.heap.size (.slice none 0 0) (.slice none 0 0) ∧ Fin wr (gD + 1) hi nv ds ∧ gD + 1 ≤ hi ∧ Hid (∀ d ∈ ds, TxOk d) ∧ Rd wr b p1 ∧ p1 ≤ p + 1 + j * 500 ∧ FrR b w wr)
  case atStart => exact ⟨0, gD + 1, p + 1, _, [], rfl, by omega, rfl, BD, B2, Fin.nil _ _ _ (by omega), Nat.le_refl _, fun d hd => by simp at hd, hR2, by omega, hF2⟩
  case round =>
    clear hR2 hF2 BD B2 hB2 hF1 hR1 B1
    obtain ⟨j, hi, p1, nv, ds, rfl, hj, hdl, hD, hG, hFin, hhi, hTX, hR, hp1, hF⟩ := hrel
    have hj0 : (0 : Int) ≤ j := by omega
    have HDL := Lib.hid hdl
    obtain ⟨nva, nvl, nvc, rfl⟩ := Fin.shape hFin
    clear hdl
    by_cases hlt : j < N
    · have HND := Lib.hid (node_draw wr b p1 N hR (by omega) (by omega))
      go_upto_block 2 with (go_at_call 71; refine HND.out.mono ?_; rintro e w3 hd; obtain ⟨s, tx, kv, ks, p2, rfl, htx, hts, hkv, hkl, hR3, hp2, hF3⟩ := hd; obtain ⟨ka, kc, rfl, _⟩ := OwnRow.shape hkv)
      have BX := Blk.new w3 #[.int .i64 s, .string tx, .slice ka ks.length kc] 58
      have hkx : ∀ g, (Value.slice ka ks.length kc).ownBlock = some g → wr.heap.size ≤ g ∧ g < w3.heap.size := fun g hg => World.ownsRow.lt hkv g hg
      have hkv4 := OwnRow.alloc hkv (.cells #[.int .i64 s, .string tx, .slice ka ks.length kc] 58)
      have hR4 := hR3.below (below1 w3 (.cells #[.int .i64 s, .string tx, .slice ka ks.length kc] 58))
      have hF4 := hF3.alloc (.cells #[.int .i64 s, .string tx, .slice ka ks.length kc] 58)
      have hxs : wr.heap.size ≤ w3.heap.size := hF3.size
      have hsx : w3.heap.size < (w3.alloc (.cells #[.int .i64 s, .string tx, .slice ka ks.length kc] 58)).heap.size := by simp
      generalize (w3.alloc (.cells #[.int .i64 s, .string tx, .slice ka ks.length kc] 58)) = w4 at *
      generalize w3.heap.size = gX at *
      generalize hL : ks.length = L at *
      have HL := Lib.hid hL
      have hWr : w.heap.size < wr.heap.size := Blk.lt hG
      have hgDr : gD < wr.heap.size := Blk.lt hD
      clear hL hkv hR3 hF3 HND
      go_cut [7] (fun v wc => ∃ (ks2 : List Int) (p3 : Nat), ks2.length = L ∧ Blk wc gX #[.int .i64 s, .string tx, .slice ka L kc] 58 ∧ OwnRow wc wr.heap.size (.slice ka L kc) ks2 ∧ Rd wc b p3 ∧ p3 ≤ p2 + 10 ∧ FrR b wr wc)
      case first =>
        have hpb : p2 ≤ 650000 := by omega
        clear hp1
        have HD := Lib.hid hD
        have HG := Lib.hid hG
        have HFin := Lib.hid hFin
        have HR := Lib.hid hR
        have HF := Lib.hid hF
        clear hD hG hFin hR hF
        go_wp2_with fail
        generalize wr = wo at *
        go_loopw [7] (fun k wq => ∃ (kk p3 : Nat) (ks2 : List Int), k = .int .i64 kk ∧ kk ≤ L ∧ ks2.length = L ∧ Blk wq gX #[.int .i64 s, .string tx, .slice ka L kc] 58 ∧ OwnRow wq wo.heap.size (.slice ka L kc) ks2 ∧ Rd wq b p3 ∧ p3 ≤ p2 + kk * 2 ∧ FrR b wo wq) (fun k wq => L - (intOf k).toNat)
        case atStart => exact ⟨0, p2, ks, rfl, by omega, HL.out, BX, hkv4, hR4, by omega, hF4⟩
        case round =>
          clear hR4 hF4 hkv4 BX
          obtain ⟨kk, p3, ks2, rfl, hkk, hkl2, hX, hkv, hR3, hp3, hF3⟩ := hrel
          have hkk0 : (0 : Int) ≤ kk := by omega
          have x2 := hX.cell0 (o := 2) (v := .slice ka L kc) rfl
          have HKL2 := Lib.hid hkl2
          clear hkl2
          by_cases hk : kk < L
          · obtain ⟨g, xo, rfl, hg1, hg2, hgc, hgf⟩ := OwnRow.at2 hkv HKL2.out hk
            have HPK := Lib.hid (pick_any _ b p3 3 hR3 (by omega) (by omega))
            have hkkL : (kk : Int) < L := by omega
            by_cases h1 : j + 1 < N
            · have h1I : (j : Int) + 1 < N := by omega
              go_upto_region 12 with (go_at_call 60; refine HPK.out.mono ?_; rintro e w5 hd; obtain ⟨k5, rfl, _, _, hR5, hF5⟩ := hd; have hk50 : (0 : Int) ≤ k5 := (by omega); have hX5 := hF5.blk hX (by omega); have hkv5 := OwnRow.mem hkv (w' := w5) (fun g' hg' hs' => hF5.keep g' hs' (by omega)); have hF35 := hF3.trans hF5; have x25 := hX5.cell0 (o := 2) (v := .slice (some ⟨g, 0, none⟩) L kc) rfl)
              · have HPK2 := Lib.hid (fun n hn => pick_any w5.drew b (p3 + 1) n hR5 (by omega) hn)
                have HCE : Hid (∀ w6, FrR b w5.drew w6 → w6.cell? ⟨gX, 2, none⟩ = some (.slice (some ⟨g, 0, none⟩) L kc) ∧ OwnRow w6 wo.heap.size (.slice (some ⟨g, 0, none⟩) L kc) ks2 ∧ Blk w6 gX #[.int .i64 s, .string tx, .slice (some ⟨g, 0, none⟩) L kc] 58) := fun w6 hF6 => by
                  have h6 := hF6.blk hX5.drew (show gX ≠ b by omega)
                  exact ⟨h6.cell0 rfl, OwnRow.mem (w := w5.drew) hkv5 (fun g' hg' hs' => hF6.keep g' hs' (by omega)), h6⟩
                have x2d := x25
                have HF35 := Lib.hid hF35
                have x2e : w5.drew.cell? ⟨gX, 2, none⟩ = some (.slice (some ⟨g, 0, none⟩) L kc) := x25
                have HR5 := Lib.hid hR5
                clear hR5 hF35 hX5 hkv5 x25 x2d x2 hgc hgf hR3 hF3 hX hkv hF5
                go_region_law (first | (go_simp; go_at_call 60; refine (HPK2.out _ ?_).mono ?_; (first | omega | exact wrap_rng _); rintro e w6 hd; obtain ⟨k6, rfl, _, _, hR6, hF6⟩ := hd; obtain ⟨x26, hk6, hX6⟩ := HCE.out w6 hF6; obtain ⟨g', xo6, hgg, hg61, hg62, hgc6, hgf6⟩ := OwnRow.at2 hk6 HKL2.out hk; have HGG := Lib.hid hgg; obtain rfl : g = g' := (by injection hgg with e; injection e); clear hgg; dsimp only) | fail)
                all_goals
                  go_wp2
                  have hggx := (hkx g rfl).2
                  exact ⟨⟨kk + 1, p3 + 2, _, by go_num, by omega, (by rw [List.length_set]; exact HKL2.out), hX6.far (by omega) kk _, OwnRow.set2 hk6 HKL2.out kk _, hR6.setN (by omega) _ _, by omega, (HF35.out.drew.trans hF6).setN hg61 _ _⟩, by simp [intOf]; omega⟩
              · go_meet
                case rel => exact ⟨ks2, p3 + 1, HKL2.out, hX5, hkv5, hR5, by omega, hF35⟩
            · have h1I : ¬ (j : Int) + 1 < N := by omega
              go_upto_region 12 with (go_at_call 60; refine HPK.out.mono ?_; rintro e w5 hd; obtain ⟨k5, rfl, _, _, hR5, hF5⟩ := hd; have hk50 : (0 : Int) ≤ k5 := (by omega); have hX5 := hF5.blk hX (by omega); have hkv5 := OwnRow.mem hkv (w' := w5) (fun g' hg' hs' => hF5.keep g' hs' (by omega)); have hF35 := hF3.trans hF5; have x25 := hX5.cell0 (o := 2) (v := .slice (some ⟨g, 0, none⟩) L kc) rfl)
              · exact ⟨⟨kk + 1, p3 + 1, ks2, by go_num, by omega, HKL2.out, hX5, hkv5, hR5, by omega, hF35⟩, by simp [intOf]; omega⟩
              · go_meet
                case rel => exact ⟨ks2, p3 + 1, HKL2.out, hX5, hkv5, hR5, by omega, hF35⟩
          · go_wp2
            go_meet
            case rel => exact ⟨ks2, p3, HKL2.out, hX, hkv, hR3, by omega, hF3⟩
      case rest =>
        clear BX hkv4 hR4 hF4
        obtain ⟨ks2, p3, hkl2, hX, hkv, hR3, hp3, hF3⟩ := hcut
        have HKL2 := Lib.hid hkl2
        clear hkl2
        go_upto_region 12 with fail
        go_cut [58] (fun v wc => ∃ (c : Bool) (p5 : Nat), v = .bool c ∧ Blk wc gX #[.int .i64 s, .string tx, .slice ka L kc] 58 ∧ OwnRow wc wr.heap.size (.slice ka L kc) ks2 ∧ Rd wc b p5 ∧ p5 ≤ p2 + 11 ∧ FrR b wr wc)
        case first =>
          by_cases h1 : j + 1 = N
          · have h1I : ((j : Int) + 1 == N) = true := by rw [beq_iff_eq]; omega
            have HPK := Lib.hid (pick_any _ b p3 3 hR3 (by omega) (by omega))
            go_wp2_with (go_at_call 60; refine HPK.out.mono ?_; rintro e w5 hd; obtain ⟨k5, rfl, _, _, hR5, hF5⟩ := hd; have hk50 : (0 : Int) ≤ k5 := (by omega); have hX5 := hF5.blk hX (by omega); have hkv5 := OwnRow.mem hkv (w' := w5) (fun g' hg' hs' => hF5.keep g' hs' (by omega)); have hF35 := hF3.trans hF5)
            all_goals
              go_meet
              case rel => exact ⟨_, p3 + 1, rfl, hX5, hkv5, hR5, by omega, hF35⟩
          · have h1I : ((j : Int) + 1 == N) = false := by rw [beq_eq_false_iff_ne]; omega
            go_wp2_with fail
            all_goals
              go_meet
              case rel => exact ⟨_, p3, rfl, hX, hkv, hR3, by omega, hF3⟩
        case rest =>
          clear hX hkv hR3 hp3 hF3
          obtain ⟨c, p5, rfl, hX, hkv, hR3, hp3, hF3⟩ := hcut
          cases c
          · go_upto_region 14 with fail
            have hgone := HDL.out
            have hi1 := hFin.1
            have hFinW : Fin wc (gD + 1) hi (.slice nva nvl nvc) ds := hFin.carry (Nat.le_trans hi1 hF3.size) (fun b' h1 h2 => hF3.keep b' (by omega) (by omega))
            have hDW : Blk wc gD #[(.slice nva nvl nvc), .slice none 0 0] 38 := hF3.blk hD (by omega)
            have hGW : Blk wc w.heap.size #[.slice none 0 0, .slice none 0 0] 38 := hF3.blk hG hne
            obtain ⟨g2, cap2, w6, happ, hFin6, hb6⟩ := append_fin wc (gD + 1) hi (.slice nva nvl nvc) ds ⟨s, tx, ks2⟩ ka L kc hFinW hhi (OwnRow.weak hkv (by omega)) (by show (tx : ByteArray).size ≤ _; omega) (by show List.length ks2 * 8 ≤ _; (rw [HKL2.out]; omega)) (by omega)
            have hFW := hF.trans hF3
            have HT6 : Hid (∀ d ∈ ds ++ [(⟨s, tx, ks2⟩ : Nd)], TxOk d) := fun d hd => by
              rcases List.mem_append.1 hd with h1 | h1
              · exact hTX.out d h1
              · rw [List.mem_singleton.1 h1]
                exact ⟨by show tx.size ≤ _; omega, hts⟩
            have c0 := hDW.cell0 (o := 0) (v := (.slice nva nvl nvc)) rfl
            have x0 := hX.cell0 (o := 0) (v := .int .i64 s) rfl
            have x1 := hX.cell0 (o := 1) (v := .string tx) rfl
            have x2 := hX.cell0 (o := 2) (v := .slice ka L kc) rfl
            have hD6 : Blk w6 gD #[(.slice nva nvl nvc), .slice none 0 0] 38 := hDW.carry hb6 (Nat.lt_succ_self _)
            have hG6 : Blk w6 w.heap.size #[.slice none 0 0, .slice none 0 0] 38 := hGW.carry hb6 (by omega)
            have hR6 := hR3.carry (hb6.mono (by omega))
            have z0 := hD6.cell0 (o := 0) (v := (.slice nva nvl nvc)) rfl
            have zf0 := hD6.free 0
            have zl := hD6.lt
            have hWD := hDW.lt
            have hWX := hX.lt
            have HF6 := Lib.hid (hFW.then hb6 (by omega))
            have HFIN := Lib.hid hFin6
            have HD6 := Lib.hid hD6
            have HG6 := Lib.hid hG6
            have HR6 := Lib.hid hR6
            clear hFin6 hb6 hFinW hDW hGW hFW hD6 hG6 hR6 hX hkv hR3 hF3 hFin hD hG hR hF hgone
            go_wp2_with (at_builtin; refine wpList_append_run rfl _ _ 36 rfl rfl rfl happ ?_)
            go_roundg (gk - 1)
            case measure => omega
            case rel => exact ⟨j + 1, w6.heap.size, p5, _, _, congrArg (Value.int .i64) (by omega), by omega, by rw [List.length_append, HDL.out]; rfl, HD6.out.set 0 _, HG6.out.far (by omega) 0 _, HFIN.out.carry (by simp) (fun b' h1 h2 => Below.heap_setCell _ _ _ _ (by show b' ≠ gD; omega)), by have := HFIN.out.1; omega, HT6, HR6.out.setN (by omega) 0 _, by omega, HF6.out.setN (by omega) 0 _⟩
          · obtain ⟨hXl, b0, b1, b2, f0, f1, f2⟩ : gX < wc.heap.size ∧ wc.cell? ⟨gX, 0, none⟩ = some (.int .i64 s) ∧ wc.cell? ⟨gX, 1, none⟩ = some (.string tx) ∧ wc.cell? ⟨gX, 2, none⟩ = some (.slice ka L kc) ∧ wc.frozen? ⟨gX, 0, none⟩ = false ∧ wc.frozen? ⟨gX, 1, none⟩ = false ∧ wc.frozen? ⟨gX, 2, none⟩ = false :=
              ⟨Blk.lt hX, Blk.cell0 hX rfl, Blk.cell0 hX rfl, Blk.cell0 hX rfl, Blk.free hX 0, Blk.free hX 1, Blk.free hX 2⟩
            go_upto_region 14 with fail
            have hXn := clr3 hX (.int .i64 6) (.string ⟨#[]⟩) (.slice none 0 0)
            have hR3n := ((hR3.setN (g := gX) (by omega) 0 (.int .i64 6)).setN (g := gX) (by omega) 1 (.string ⟨#[]⟩)).setN (g := gX) (by omega) 2 (.slice none 0 0)
            have hF3n := ((hF3.setN (g := gX) hxs 0 (.int .i64 6)).setN (g := gX) hxs 1 (.string ⟨#[]⟩)).setN (g := gX) hxs 2 (.slice none 0 0)
            clear hX hR3 hF3 b0 b1 b2 f0 f1 f2 hXl hkv
            generalize (((wc.setCell ⟨gX, 0, none⟩ (.int .i64 6)).setCell ⟨gX, 1, none⟩ (.string ⟨#[]⟩)).setCell ⟨gX, 2, none⟩ (.slice none 0 0)) = wn at *
            have hX := hXn
            have hR3 := hR3n
            have hF3 := hF3n
            have hkv : True := trivial
            clear hXn hR3n hF3n
            
            have hgone := HDL.out
            have hi1 := hFin.1
            have hFinW : Fin wn (gD + 1) hi (.slice nva nvl nvc) ds := hFin.carry (Nat.le_trans hi1 hF3.size) (fun b' h1 h2 => hF3.keep b' (by omega) (by omega))
            have hDW : Blk wn gD #[(.slice nva nvl nvc), .slice none 0 0] 38 := hF3.blk hD (by omega)
            have hGW : Blk wn w.heap.size #[.slice none 0 0, .slice none 0 0] 38 := hF3.blk hG hne
            obtain ⟨g2, cap2, w6, happ, hFin6, hb6⟩ := append_fin wn (gD + 1) hi (.slice nva nvl nvc) ds ⟨6, ⟨#[]⟩, []⟩ none 0 0 hFinW hhi (World.ownsRow_nil _ _ _ _) (by show (⟨#[]⟩ : ByteArray).size ≤ _; decide) (by show List.length [] * 8 ≤ _; decide) (by omega)
            have hFW := hF.trans hF3
            have HT6 : Hid (∀ d ∈ ds ++ [(⟨6, ⟨#[]⟩, []⟩ : Nd)], TxOk d) := fun d hd => by
              rcases List.mem_append.1 hd with h1 | h1
              · exact hTX.out d h1
              · rw [List.mem_singleton.1 h1]
                exact ⟨by show ByteArray.size ⟨#[]⟩ ≤ _; decide, by intro h; exact absurd h (by decide)⟩
            have c0 := hDW.cell0 (o := 0) (v := (.slice nva nvl nvc)) rfl
            have x0 := hX.cell0 (o := 0) (v := .int .i64 6) rfl
            have x1 := hX.cell0 (o := 1) (v := .string ⟨#[]⟩) rfl
            have x2 := hX.cell0 (o := 2) (v := .slice none 0 0) rfl
            have hD6 : Blk w6 gD #[(.slice nva nvl nvc), .slice none 0 0] 38 := hDW.carry hb6 (Nat.lt_succ_self _)
            have hG6 : Blk w6 w.heap.size #[.slice none 0 0, .slice none 0 0] 38 := hGW.carry hb6 (by omega)
            have hR6 := hR3.carry (hb6.mono (by omega))
            have z0 := hD6.cell0 (o := 0) (v := (.slice nva nvl nvc)) rfl
            have zf0 := hD6.free 0
            have zl := hD6.lt
            have hWD := hDW.lt
            have hWX := hX.lt
            have HF6 := Lib.hid (hFW.then hb6 (by omega))
            have HFIN := Lib.hid hFin6
            have HD6 := Lib.hid hD6
            have HG6 := Lib.hid hG6
            have HR6 := Lib.hid hR6
            clear hFin6 hb6 hFinW hDW hGW hFW hD6 hG6 hR6 hX hkv hR3 hF3 hFin hD hG hR hF hgone
            go_wp2_with (at_builtin; refine wpList_append_run rfl _ _ 36 rfl rfl rfl happ ?_)
            go_roundg (gk - 1)
            case measure => omega
            case rel => exact ⟨j + 1, w6.heap.size, p5, _, _, congrArg (Value.int .i64) (by omega), by omega, by rw [List.length_append, HDL.out]; rfl, HD6.out.set 0 _, HG6.out.far (by omega) 0 _, HFIN.out.carry (by simp) (fun b' h1 h2 => Below.heap_setCell _ _ _ _ (by show b' ≠ gD; omega)), by have := HFIN.out.1; omega, HT6, HR6.out.setN (by omega) 0 _, by omega, HF6.out.setN (by omega) 0 _⟩
    · have hjN : j = N := by omega
      have HP4 := Lib.hid (pick_any _ b p1 4 hR (by omega) (by omega))
      have HJ := Lib.hid hjN
      clear hjN
      go_wp2_with (go_at_call 60; refine HP4.out.mono ?_; rintro e w3 hd; obtain ⟨k3, rfl, hk3, _, hR3, hF3⟩ := hd; replace hk3 := hk3 (by decide); have hk30 : (0 : Int) ≤ k3 := (by omega))
      have hi1 := hFin.1
      have hFin3 : Fin w3 (gD + 1) hi (.slice nva nvl nvc) ds := hFin.carry (Nat.le_trans hi1 hF3.size) (fun b' h1 h2 => hF3.keep b' (by omega) (by omega))
      have hD3 : Z38 w3 gD (.slice nva nvl nvc) (.slice none 0 0) := hF3.blk hD (by omega)
      have hG3 : Z38 w3 w.heap.size (.slice none 0 0) (.slice none 0 0) := hF3.blk hG hne
      have hFw := hF.trans hF3
      clear hFin hD hG hF hR HP4 hF3
      go_loopw [8] (fun i wr => ∃ (m p2 : Nat) (rv : Value) (rs : List Int), i = .int .i64 m ∧ m + rs.length ≤ 3 ∧ Z38 wr gD (.slice nva nvl nvc) rv ∧ Z38 wr w.heap.size (.slice none 0 0) (.slice none 0 0) ∧ Fin wr (gD + 1) hi (.slice nva nvl nvc) ds ∧ OwnRow wr hi rv rs ∧ Rd wr b p2 ∧ p2 + m ≤ p1 + 5 ∧ FrR b w wr) (fun i wr => (intOf i).toNat)
      case atStart => exact ⟨k3, p1 + 1, _, [], rfl, by simp; omega, hD3, hG3, hFin3, World.ownsRow_nil _ _ _ _, hR3, by omega, hFw⟩
      case round =>
        clear hFin3 hD3 hG3 hFw hR3
        obtain ⟨m, p2, rv, rs, rfl, hm, hD, hG, hFin, hrv, hR, hp2, hF⟩ := hrel
        have hm0 : (0 : Int) ≤ m := by omega
        have hi2 := hFin.1
        have hlD2 := Blk.lt hD
        by_cases hlt2 : 0 < m
        · have hHP := pick_app wr.drew b p2 N gD _ 38 hi rv rs (h := hR) (by omega) (by omega) (Blk.drew hD) (by omega) (by omega) (by omega) hi2 hrv (by omega)
          have HPA := Lib.hid hHP
          have c1 := (Blk.drew hD).cell0 (o := 1) (v := rv) rfl
          clear hHP
          go_wp2_with fail
          go_region_law (first | (simp only [Region.wanted, ↓reduceIte]; (refine wp_append_run (v := rv) (xv := .slice (some ⟨w4.heap.size, 0, none⟩) 1 1) (v' := .slice (some ⟨g2, 0, none⟩) (rs.length + 1) cap2) (w' := w6) (.tmp 73) (.tmp 77) 32 ?_ ?_ ?_ ?_ ?_; rfl; rfl; rfl; exact HAPP.out)) | (go_simp; go_at_call 60; refine HPA.out.mono ?_; rintro e w4 hd; obtain ⟨k4, g2, cap2, w6, rfl, happ, hk6, hB4, hB6, hR6, hX6⟩ := hd; have HAPP := Lib.hid happ; clear happ; have d1 := hB4.cell0 (o := 1) (v := rv) rfl; have d4 := hB4.lt; have z1 := hB6.cell0 (o := 1) (v := rv) rfl; have zf1 := hB6.free 1; have z4 := hB6.lt; dsimp only) | fail)
          all_goals
            go_wp2
            have hab : ∀ g, rv.ownBlock = some g → hi ≤ g := fun g hg => OwnRow.above hrv g hg
            have hG6 : Z38 w6 w.heap.size (.slice none 0 0) (.slice none 0 0) := (hX6.keep _ (Blk.lt hG) hne (fun e => by have := hab _ e; omega)).trans hG
            have hFin6 : Fin w6 (gD + 1) hi (.slice nva nvl nvc) ds := hFin.carry (Nat.le_trans hi2 hX6.size) (fun b' h1 h2 => hX6.keep b' (show b' < wr.heap.size by omega) (by omega) (fun e => by have := hab _ e; omega))
            refine ⟨⟨m - 1, p2 + 1, _, rs ++ [(k4 : Int)], congrArg (Value.int .i64) (by omega), by simp; omega, hB6.set 1 _, Blk.far hG6 (by omega) 1 _, hFin6.carry (by simpa using hFin6.1) (fun b' h1 h2 => Below.heap_setCell _ _ _ _ (by show b' ≠ gD; omega)), OwnRow.far hk6 (by omega) 1 _, hR6.setN (by omega) 1 _, by omega, (FrX.onto hF.drew hX6 (fun g hg => by have := hab g hg; omega)).setN (by omega) 1 _⟩, by simp [intOf]; omega⟩
        · obtain ⟨ra, rc, rfl, _⟩ := OwnRow.shape hrv
          have c0 := Blk.cell0 hD (o := 0) (v := .slice nva nvl nvc) rfl
          have c1 := Blk.cell0 hD (o := 1) (v := .slice ra rs.length rc) rfl
          have b0 := Blk.cell0 hG (o := 0) (v := .slice none 0 0) rfl
          have b1 := Blk.cell0 hG (o := 1) (v := .slice none 0 0) rfl
          have f0 := Blk.free hG 0
          have f1 := Blk.free hG 1
          have hgl := Blk.lt hG
          have hgne : gD ≠ w.heap.size := by omega
          have HRV := Lib.hid hrv
          have HFN := Lib.hid hFin
          clear hrv hFin
          go_wp2
          refine bodyPost_ret (v := .agg #[.slice nva nvl nvc, .slice ra rs.length rc]) (by simp [results, Tryd.results65, go_sem, b0, b1, f0, f1, hgl]) rfl ?_
          have hdl := HDL.out
          have hjN := HJ.out
          have hFE : Fin ((wr.setCell ⟨w.heap.size, 0, none⟩ (.slice nva nvl nvc)).setCell ⟨w.heap.size, 1, none⟩ (.slice ra rs.length rc)) (gD + 1) hi (.slice nva nvl nvc) ds :=
            HFN.out.carry (by simp; omega) (fun b' h1 h2 => (Below.heap_setCell _ _ _ _ (by show b' ≠ w.heap.size; omega)).trans (Below.heap_setCell _ _ _ _ (by show b' ≠ w.heap.size; omega)))
          have hwh : w.heap.size < hi := by omega
          have hRE := OwnRow.far (lo := hi) (OwnRow.far (lo := hi) HRV.out hwh 0 (.slice nva nvl nvc)) hwh 1 (.slice ra rs.length rc)
          refine ⟨_, _, ds, rs, p2, rfl, (by rintro rfl; simp at hdl; omega), hFE.nodes (by omega) (fun b' _ h2 => h2), OwnRow.ints hRE (by omega) (fun g _ _ h2 => h2), hTX.out, (hR.setN hb 0 _).setN hb 1 _, by omega, (hF.setN (Nat.le_refl _) 0 _).setN (Nat.le_refl _) 1 _⟩
end Go.Proofs.YtjpkmcaogekkdaaDoor.Dw
