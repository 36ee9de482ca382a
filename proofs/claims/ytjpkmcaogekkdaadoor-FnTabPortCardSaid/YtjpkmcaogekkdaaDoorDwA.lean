/- The reference's draws: the reader of a code, picking a number, walked. -/
import Derived.Test.YtjpkmcaogekkdaaDoorRmG
import Derived.Deep.QuietTactic
import Derived.BigQuiet

namespace Go.Proofs.YtjpkmcaogekkdaaDoor.Dw
open Go.RowKit Go.Proofs.YtjpkmcaogekkdaaDoor.Rm
set_option linter.unusedVariables false
set_option linter.unusedSimpArgs false

/-- the code's bytes, in a block below b -/
def Code (w : World) (b : Nat) (cv : Value) : Prop :=
  ∃ (a : Option Addr) (n c : Nat), cv = .slice a n c ∧ n ≤ 2000 ∧ (n ≠ 0 → ∃ cb o, a = some ⟨cb, o, none⟩ ∧ cb < b ∧ ∀ i, i < n → ∃ x : Int, w.cell? ⟨cb, o + i, none⟩ = some (.int .u8 x) ∧ 0 ≤ x ∧ x < 256)
/-- the reader in block b, at a place -/
def Rd (w : World) (b p : Nat) : Prop := ∃ cv, Blk w b #[cv, .int .i64 p] 99 ∧ Code w b cv
/-- only block b may have changed -/
structure FrR (b : Nat) (w w' : World) : Prop where
  os : w'.os = w.os
  tape : w'.tape = w.tape
  output : w'.output = w.output
  size : w.heap.size ≤ w'.heap.size
  keep : ∀ g, g < w.heap.size → g ≠ b → w'.heap[g]? = w.heap[g]?
theorem FrR.refl (b : Nat) (w : World) : FrR b w w := ⟨rfl, rfl, rfl, Nat.le_refl _, fun _ _ _ => rfl⟩
theorem FrR.trans {b : Nat} {w w1 w2 : World} (h : FrR b w w1) (k : FrR b w1 w2) : FrR b w w2 :=
  ⟨k.os.trans h.os, k.tape.trans h.tape, k.output.trans h.output, Nat.le_trans h.size k.size, fun g hg hb => (k.keep g (Nat.lt_of_lt_of_le hg h.size) hb).trans (h.keep g hg hb)⟩
theorem FrR.of_below {b : Nat} {w w' : World} (h : Below w.heap.size w w') : FrR b w w' := ⟨h.os, h.tape, h.output, h.size, fun g hg _ => h.block g hg⟩
theorem FrR.below {b lo : Nat} {w w' : World} (h : FrR b w w') (hl : lo ≤ b) (hs : lo ≤ w.heap.size) : Below lo w w' := ⟨h.os, h.tape, h.output, h.size, fun g hg => h.keep g (by omega) (by omega)⟩
theorem FrR.store (b : Nat) (w : World) (o : Nat) (u : Value) : FrR b w (w.setCell ⟨b, o, none⟩ u) := ⟨rfl, rfl, rfl, by simp, fun g hg hne => Below.heap_setCell _ _ _ _ hne⟩
theorem FrR.drew {b : Nat} {w w' : World} (h : FrR b w w') : FrR b w w'.drew := ⟨h.os, h.tape, h.output, h.size, h.keep⟩
theorem FrR.drewN {b : Nat} {w w' : World} (h : FrR b w w') (n : Nat) : FrR b w (w'.drewN n) := ⟨h.os, h.tape, h.output, h.size, h.keep⟩
theorem FrR.blk {b g : Nat} {w w' : World} {C : Array Value} {t : TypeId} (h : FrR b w w') (hB : Blk w g C t) (hne : g ≠ b) : Blk w' g C t := (h.keep g hB.lt hne).trans hB
theorem Code.below {w w' : World} {b : Nat} {cv : Value} (h : Code w b cv) (hb : Below b w w') : Code w' b cv := by
  obtain ⟨a, n, c, h1, h2, h3⟩ := h
  refine ⟨a, n, c, h1, h2, fun hn => ?_⟩
  obtain ⟨cb, o, h4, h5, h6⟩ := h3 hn
  refine ⟨cb, o, h4, h5, fun i hi => ?_⟩
  obtain ⟨x, h7, h8⟩ := h6 i hi
  exact ⟨x, (hb.cell (p := ⟨cb, o + i, none⟩) h5).trans h7, h8⟩
theorem Rd.lt {w : World} {b p : Nat} (h : Rd w b p) : b < w.heap.size := by
  obtain ⟨cv, h1, _⟩ := h
  exact h1.lt
theorem Rd.below {w w' : World} {b p : Nat} (h : Rd w b p) (hb : Below w.heap.size w w') : Rd w' b p := by
  have hl := h.lt
  obtain ⟨cv, h1, h2⟩ := h
  exact ⟨cv, h1.below hb, h2.below (hb.mono (by omega))⟩

theorem w64 (x : Int) (h : -9223372036854775808 ≤ x) (h2 : x ≤ 9223372036854775807) : IntKind.i64.wrap x = x := by
  rw [IntKind.wrap_i64]
  omega

theorem xor_nn (x y : Int) (hx : 0 ≤ x) (hy : 0 ≤ y) (hx2 : x ≤ 9223372036854775807) (hy2 : y ≤ 9223372036854775807) : 0 ≤ bits .xor .i64 x y := by
  obtain ⟨a, rfl⟩ : ∃ a : Nat, x = a := ⟨x.toNat, by omega⟩
  obtain ⟨b, rfl⟩ : ∃ b : Nat, y = b := ⟨y.toNat, by omega⟩
  have h1 : (BitVec.ofInt 64 (a : Int)).toNat = a := by
    rw [BitVec.ofInt_natCast, BitVec.toNat_ofNat]; exact Nat.mod_eq_of_lt (by omega)
  have h2 : (BitVec.ofInt 64 (b : Int)).toNat = b := by
    rw [BitVec.ofInt_natCast, BitVec.toNat_ofNat]; exact Nat.mod_eq_of_lt (by omega)
  have hxl : a ^^^ b < 2 ^ 63 := Nat.xor_lt_two_pow (by omega) (by omega)
  show 0 ≤ IntKind.i64.wrap ((BitVec.ofInt 64 (a : Int) ^^^ BitVec.ofInt 64 (b : Int)).toNat : Int)
  rw [BitVec.toNat_xor, h1, h2, w64 _ (by omega) (by omega)]
  omega

theorem pick_bd (x y p m : Int) (hx0 : 0 ≤ x) (hx1 : x < 256) (hy0 : 0 ≤ y) (hy1 : y < 256) (hp0 : 0 ≤ p) (hp : p ≤ 1000000) (hm : 0 < m) :
    0 ≤ x * 131 + y * 1117 + p * 29 + wrap64 (wrap64 (p / m) * 53) ∧ x * 131 + y * 1117 + p * 29 + wrap64 (wrap64 (p / m) * 53) ≤ 1000000000 := by
  have h1 : 0 ≤ p / m := Int.ediv_nonneg hp0 (by omega)
  have h2 : p / m ≤ p := Int.ediv_le_self _ hp0
  generalize p / m = q at *
  have h3 : wrap64 q = q := by unfold wrap64; omega
  have h4 : wrap64 (q * 53) = q * 53 := by unfold wrap64; omega
  rw [h3, h4]
  omega

def PickPost (b p : Nat) (n : Int) (w : World) (e : Ending) (w' : World) : Prop :=
  ∃ k : Nat, e = .returned (.int .i64 k) ∧ (0 < n → (k : Int) < n) ∧ (n ≤ 0 → k = 0) ∧ Rd w' b (p + 1) ∧ FrR b w w'

set_option maxHeartbeats 2000000 in
set_option maxRecDepth 100000 in
theorem pick_any (w : World) (b p : Nat) (n : Int) (h : Rd w b p) (hp : p ≤ 1000000) (hn : -9223372036854775808 ≤ n ∧ n ≤ 9223372036854775807) :
    Calls Tryd.prog 60 #[.pointer (some ⟨b, 0, none⟩), .int .i64 n] w (PickPost b p n w) := by
  have hb := h.lt
  obtain ⟨cv, hB, a, m, c, rfl, hm, hcode⟩ := h
  have c0 := hB.cell0 (o := 0) (v := .slice a m c) rfl
  have c1 := hB.cell0 (o := 1) (v := .int .i64 p) rfl
  have f1 := hB.free 1
  have HC : Hid (Code w b (.slice a m c)) := ⟨a, m, c, rfl, hm, hcode⟩
  have HB2 : Hid (Blk (w.setCell ⟨b, 1, none⟩ (.int .i64 ((p : Int) + 1))) b #[.slice a m c, .int .i64 ((p : Int) + 1)] 99) := hB.set 1 (.int .i64 ((p : Int) + 1))
  have HF2 : Hid (FrR b w (w.setCell ⟨b, 1, none⟩ (.int .i64 ((p : Int) + 1)))) := FrR.store b w 1 _
  have HR2 : Hid (Rd (w.setCell ⟨b, 1, none⟩ (.int .i64 ((p : Int) + 1))) b (p + 1)) := ⟨_, HB2.out, HC.out.below (HF2.out.below (Nat.le_refl _) (by omega))⟩
  clear hB
  by_cases hn1 : n < 1
  · go_enter Tryd.func60, Tryd.ntmps60
    go_wp2
    refine bodyPost_ret (v := .int .i64 0) (by simp [results, Tryd.results60, go_sem]) rfl ?_
    exact ⟨0, rfl, by omega, fun _ => rfl, HR2.out, HF2.out⟩
  · by_cases hm0 : m = 0
    · subst hm0
      go_enter Tryd.func60, Tryd.ntmps60
      go_wp2
      refine bodyPost_ret (v := .int .i64 0) (by simp [results, Tryd.results60, go_sem]) rfl ?_
      exact ⟨0, rfl, by omega, fun _ => rfl, HR2.out, HF2.out⟩
    · obtain ⟨cb, o, rfl, hcb, hcell⟩ := hcode hm0
      have HCE : Hid (∀ i, i < m → ∃ x : Int, (w.setCell ⟨b, 1, none⟩ (.int .i64 ((p : Int) + 1))).cell? ⟨cb, o + i, none⟩ = some (.int .u8 x) ∧ 0 ≤ x ∧ x < 256) := fun i hi => by
        obtain ⟨x, h1, h2⟩ := hcell i hi
        exact ⟨x, ((HF2.out.below (Nat.le_refl _) (by omega)).cell (p := ⟨cb, o + i, none⟩) hcb).trans h1, h2⟩
      clear hcell hcode
      by_cases hpm : p < m
      · obtain ⟨x, hx, hx0, hx1⟩ := HCE.out p hpm
        go_enter Tryd.func60, Tryd.ntmps60
        go_wp2
        refine bodyPost_ret (v := .int .i64 (x % n)) (by simp [results, Tryd.results60, go_sem]) rfl ?_
        have h1 := Int.emod_nonneg x (show n ≠ 0 by omega)
        have h2 := Int.emod_lt_of_pos x (show 0 < n by omega)
        exact ⟨(x % n).toNat, by rw [Int.toNat_of_nonneg h1], by omega, by omega, HR2.out, HF2.out⟩
      · obtain ⟨x, hx, hx0, hx1⟩ := HCE.out (p % m) (Nat.mod_lt _ (by omega))
        obtain ⟨y, hy, hy0, hy1⟩ := HCE.out ((p * 7 + 3) % m) (Nat.mod_lt _ (by omega))
        have hm1 : (0 : Int) < m := by omega
        have hp0 : (0 : Int) ≤ p := by omega
        have g0 := HB2.out.cell0 (o := 0) (v := .slice (some ⟨cb, o, none⟩) m c) rfl
        have t1 : (p : Int).tmod m = (p : Int) % m := Int.tmod_eq_emod_of_nonneg hp0
        have q1 : IntKind.i64.wrap (IntKind.i64.wrap ((p : Int) * 7) + 3) = (p : Int) * 7 + 3 := by rw [w64 ((p : Int) * 7) (by omega) (by omega), w64 _ (by omega) (by omega)]
        have t2 : (IntKind.i64.wrap (IntKind.i64.wrap ((p : Int) * 7) + 3)).tmod m = ((p : Int) * 7 + 3) % m := by rw [q1]; exact Int.tmod_eq_emod_of_nonneg (by omega)
        have j1 : (0 : Int) ≤ (p : Int).tmod m := by rw [t1]; exact Int.emod_nonneg _ (by omega)
        have j2 : (p : Int).tmod m < m := by rw [t1]; exact Int.emod_lt_of_pos _ hm1
        have j3 : (0 : Int) ≤ (IntKind.i64.wrap (IntKind.i64.wrap ((p : Int) * 7) + 3)).tmod m := by rw [t2]; exact Int.emod_nonneg _ (by omega)
        have j4 : (IntKind.i64.wrap (IntKind.i64.wrap ((p : Int) * 7) + 3)).tmod m < m := by rw [t2]; exact Int.emod_lt_of_pos _ hm1
        have e1 : ((p : Int).tmod m).toNat = p % m := by rw [t1]; omega
        have e2 : ((IntKind.i64.wrap (IntKind.i64.wrap ((p : Int) * 7) + 3)).tmod m).toNat = (p * 7 + 3) % m := by rw [t2]; rfl
        rw [← e1] at hx
        rw [← e2] at hy
        have d1 : (p : Int).tdiv m = (p : Int) / m := Int.tdiv_eq_ediv_of_nonneg hp0
        have d2 : (0 : Int) ≤ (p : Int).tdiv m := by rw [d1]; exact Int.ediv_nonneg hp0 (by omega)
        have d3 : (p : Int).tdiv m ≤ p := by rw [d1]; exact Int.ediv_le_self _ hp0
        clear e1 e2 t1 t2 d1 q1
        go_enter Tryd.func60, Tryd.ntmps60
        go_wp2
        go_quiet (fail)
        clear g0 hx hy j1 j2 j3 j4
        go_wp2
        have hX0 : 0 ≤ x * 131 + y * 1117 + (p : Int) * 29 + wrap64 (wrap64 ((p : Int) / m) * 53) ∧ x * 131 + y * 1117 + (p : Int) * 29 + wrap64 (wrap64 ((p : Int) / m) * 53) ≤ 1000000000 := by
          exact pick_bd x y p m hx0 hx1 hy0 hy1 hp0 (by omega) hm1
        generalize hX : x * 131 + y * 1117 + (p : Int) * 29 + wrap64 (wrap64 ((p : Int) / m) * 53) = X at *
        have hXw : wrap64 X = X := by unfold wrap64; omega
        have hXd : 0 ≤ X.tdiv 64 ∧ X.tdiv 64 ≤ X := by
          rw [Int.tdiv_eq_ediv_of_nonneg hX0.1]
          omega
        have hXz : wrap64 (X.tdiv 64) = X.tdiv 64 := by unfold wrap64; omega
        rw [hXw, hXz]
        have hb0 := xor_nn X (X.tdiv 64) hX0.1 hXd.1 (by omega) (by omega)
        generalize bits BinOp.xor IntKind.i64 X (X.tdiv 64) = Y at *
        refine bodyPost_ret (v := .int .i64 (Y.tmod n)) (by simp [results, Tryd.results60, go_sem]) rfl ?_
        have h0 : Y.tmod n = Y % n := Int.tmod_eq_emod_of_nonneg hb0
        have h1 := Int.emod_nonneg Y (show n ≠ 0 by omega)
        have h2 := Int.emod_lt_of_pos Y (show 0 < n by omega)
        rw [← h0] at h1 h2
        exact ⟨(Y.tmod n).toNat, by rw [Int.toNat_of_nonneg h1], by omega, by omega, HR2.out.below (below_drewN (Below.refl _ _) _), HF2.out.drewN _⟩

/-- a list of texts, new, in the block g -/
def Strs (w : World) (g : Nat) (l : List ByteArray) : Prop := ∀ i s, l[i]? = some s → w.cell? ⟨g, i, none⟩ = some (.string s)
def OfPost (b p : Nat) (l : List ByteArray) (w : World) (e : Ending) (w' : World) : Prop :=
  ∃ s ∈ l, e = .returned (.string s) ∧ Rd w' b (p + 1) ∧ FrR b w w'
def OfMid (b p g n : Nat) (l : List ByteArray) (w : World) (e : Ending) (w1 : World) : Prop :=
  ∃ (k : Nat) (s : ByteArray), e = .returned (.int .i64 k) ∧ (0 : Int) ≤ k ∧ (k : Int) < n ∧ s ∈ l ∧ w1.cell? ⟨g, k, none⟩ = some (.string s) ∧ Rd w1 b (p + 1) ∧ FrR b w w1

set_option maxHeartbeats 2000000 in
set_option maxRecDepth 100000 in
theorem of_any (w : World) (b p g c n : Nat) (l : List ByteArray) (h : Rd w b p) (hp : p ≤ 1000000) (hl : l.length = n) (hn0 : 0 < n) (hn : n ≤ 1000) (hg : g < w.heap.size) (hgb : g ≠ b) (hs : Strs w g l) :
    Calls Tryd.prog 59 #[.pointer (some ⟨b, 0, none⟩), .slice (some ⟨g, 0, none⟩) n c] w (OfPost b p l w) := by
  have HP : Hid (Calls Tryd.prog 60 #[.pointer (some ⟨b, 0, none⟩), .int .i64 n] w (OfMid b p g n l w)) := (pick_any w b p (n : Int) h hp (by omega)).mono fun e w1 hd => by
    obtain ⟨k, rfl, hk, _, hR1, hF1⟩ := hd
    have hkn := hk (by omega)
    obtain ⟨s, hsk⟩ := getSome l k (by rw [hl]; omega)
    refine ⟨k, s, rfl, by omega, hkn, List.mem_of_getElem? hsk, ?_, hR1, hF1⟩
    have z := hs k s hsk
    unfold World.cell? at z ⊢
    rw [show w1.heap[g]? = w.heap[g]? from hF1.keep g hg hgb]
    exact z
  clear hs hl
  go_enter Tryd.func59, Tryd.ntmps59
  go_wp2_with (go_at_call 60; refine HP.out.mono ?_; rintro e w1 ⟨k, s, rfl, hk0, hkn, hsl, hc, hR, hF⟩)
  go_ret
  exact ⟨s, hsl, rfl, hR, hF⟩
end Go.Proofs.YtjpkmcaogekkdaaDoor.Dw
