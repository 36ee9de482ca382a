/- The greatest common divisor, products and the writing of decimals in the reference, walked. -/
import Derived.Test.YtjpkmcaogekkdaaDoorNuD
namespace Go.Proofs.YtjpkmcaogekkdaaDoor.Nu
open Go.RowKit Go.Proofs.YtjpkmcaogekkdaaDoor.Rm
set_option linter.unusedVariables false
set_option linter.unusedSimpArgs false

def svl : Value → Nat
  | .string s => vl s.data.toList
  | _ => 0
theorem isTxt (s : ByteArray) (l : List UInt8) : (s.toList == l) = decide (s.data.toList = l) := by
  rw [ByteArray.toList_eq, Bool.eq_iff_iff]
  simp

set_option maxHeartbeats 2000000 in
set_option maxRecDepth 100000 in
theorem l1Gcd_any (a b : ByteArray) (w : World) (ha : a.size ≤ 100000000) (hb : b.size ≤ 100000000) (ka : Dec a.data.toList) (kb : Dec b.data.toList) (hv : 0 < vl b.data.toList) :
    Calls Tryd.prog 116 #[.string a, .string b] w fun e w' => DecPost w e w' fun r => 0 < vl r.data.toList ∧ r.size ≤ 100000000 := by
  go_enter Tryd.func116, Tryd.ntmps116
  go_wp2
  go_loopw [0, 1] (fun x y wr => ∃ (a' b' : ByteArray), x = .string a' ∧ y = .string b' ∧ Below w.heap.size w wr ∧ a'.size ≤ 100000000 ∧ b'.size ≤ 100000000 ∧ Hid (Dec a'.data.toList ∧ Dec b'.data.toList ∧ (0 < vl a'.data.toList ∨ 0 < vl b'.data.toList))) (fun x y wr => svl y)
  case atStart => exact ⟨a, b, rfl, rfl, Below.refl _ _, ha, hb, ka, kb, .inr hv⟩
  case round =>
    obtain ⟨a', b', rfl, rfl, hbel, ha', hb', hI⟩ := hrel
    by_cases h0 : b'.data.toList = [48]
    · have ht : (b'.toList == [48]) = true := by rw [isTxt, decide_eq_true h0]
      have hp : 0 < vl a'.data.toList := by
        have h1 := hI.out.2.2
        rw [h0] at h1
        simpa [vl, rv, dg] using h1
      have HP := Lib.hid hp
      clear hp h0
      go_wp2
      go_ret
      exact ⟨a', rfl, hI.out.1, ⟨HP.out, ha'⟩, hbel⟩
    · have ht : (b'.toList == [48]) = false := by rw [isTxt, decide_eq_false h0]
      have hp : 0 < vl b'.data.toList := Nat.pos_of_ne_zero fun e => h0 (hI.out.2.1.zero.1 e)
      have HP := Lib.hid hp
      clear hp h0
      go_wp2_with (go_at_call 117; refine (l1Div_any _ _ _ ?_ ?_ hI.out.1 hI.out.2.1 HP.out).mono ?_; omega; omega; rintro e w' ⟨q, r, rfl, k1, k2, k3, k4, k5, hb1⟩; have K2 := Lib.hid k2; have K4 := Lib.hid k4; clear k1 k2 k3 k4)
      refine ⟨⟨b', r, rfl, rfl, hbel.trans (hb1.mono hbel.size), hb', ?_, hI.out.2.1, K2.out, .inl HP.out⟩, K4.out⟩
      exact Nat.le_trans (K2.out.len_le hI.out.2.1 (Nat.le_of_lt K4.out)) hb'

theorem one_digit {r : List UInt8} (h : Dec r) (h10 : vl r < 10) : ∃ x, r = [x] ∧ Dig x := by
  rcases Nat.lt_or_ge 1 r.length with h1 | h1
  · have h2 := h.ge h1
    have h3 : 10 ^ 1 ≤ 10 ^ (r.length - 1) := Nat.pow_le_pow_right (by omega) (by omega)
    omega
  · obtain ⟨x, rfl⟩ := List.length_eq_one_iff.1 (show r.length = 1 by have := h.pos; omega)
    exact ⟨x, rfl, h.1 x List.mem_cons_self⟩

theorem smallL_10 : smallL 10 = [49, 48] := by
  rw [smallL, smallL]
  rfl
theorem dec10 : Dec [49, 48] := ⟨by
  intro b hb
  rcases List.mem_cons.1 hb with rfl | hb
  · exact ⟨by decide, by decide⟩
  · obtain rfl := List.mem_singleton.1 hb
    exact ⟨by decide, by decide⟩, by simp, .inr (by simp)⟩
theorem vl10 : vl [49, 48] = 10 := by decide

def OutPost (n : Nat) (w : World) (e : Ending) (w' : World) : Prop := ∃ r : ByteArray, e = .returned (.string r) ∧ r.size ≤ n ∧ Below w.heap.size w w'

theorem spellB (y : UInt8) (w : World) : (convert 44 9 (.slice (some ⟨w.heap.size, 0, none⟩) 1 1)).run Tryd.prog (w.alloc (.cells #[.int .u8 (y.toNat : Int)] 5)) = .ok (.string ⟨#[y]⟩) (w.alloc (.cells #[.int .u8 (y.toNat : Int)] 5)) := by
  have h : BRow (w.alloc (.cells #[.int .u8 (y.toNat : Int)] 5)) w.heap.size [y] := ⟨_, Blk.new _ _ _, rfl, fun i z hi => by
    have hl := (List.getElem?_eq_some_iff.1 hi).1
    obtain rfl : i = 0 := by simpa using hl
    obtain rfl := Option.some.inj hi
    rfl⟩
  exact h.string 1 1 rfl

/-- how far the writing is -/
def OutI (a n : List UInt8) (k : Nat) : Prop := Dec n ∧ (k = 0 ∨ 0 < vl n) ∧ vl n * 10 ^ k ≤ vl a
theorem OutI.lt {a n : List UInt8} {k : Nat} (h : OutI a n k) (ha : Dec a) : k < a.length := by
  obtain ⟨h1, h2, h3⟩ := h
  rcases h2 with rfl | h2
  · exact ha.pos
  · have h4 := vl_lt a ha.1
    have h5 : 1 * 10 ^ k ≤ vl n * 10 ^ k := Nat.mul_le_mul_right _ h2
    exact (Nat.pow_lt_pow_iff_right (show 1 < 10 by omega)).1 (by omega)
theorem OutI.step {a n q : List UInt8} {k r : Nat} (h : OutI a n k) (hq : Dec q) (hv : vl q * 10 + r = vl n) (h0 : 0 < vl q) : OutI a q (k + 1) := by
  obtain ⟨h1, h2, h3⟩ := h
  refine ⟨hq, .inr h0, Nat.le_trans ?_ h3⟩
  rw [Nat.pow_succ, Nat.mul_comm (10 ^ k) 10, ← Nat.mul_assoc]
  exact Nat.mul_le_mul_right _ (by omega)

set_option maxHeartbeats 2000000 in
set_option maxRecDepth 100000 in
theorem l2Out_any (a : ByteArray) (w : World) (ha : a.size ≤ 100000) (ka : Dec a.data.toList) :
    Calls Tryd.prog 102 #[.string a, .int .i64 10] w (OutPost a.size w) := by
  have KA := Lib.hid ka
  clear ka
  go_enter Tryd.func102, Tryd.ntmps102
  go_wp2
  go_loopw [0, 5] (fun x o wr => ∃ (n out : ByteArray), x = .string n ∧ o = .string out ∧ Below w.heap.size w wr ∧ n.size ≤ 100000 ∧ out.size < a.size ∧ Hid (OutI a.data.toList n.data.toList out.size)) (fun x o wr => svl x)
  case atStart => exact ⟨a, _, rfl, rfl, Below.refl _ _, ha, KA.out.pos, KA.out, .inl rfl, by simp [ByteArray.size]⟩
  case round =>
    obtain ⟨n, out, rfl, rfl, hbel, hn, hos, hD⟩ := hrel
    go_wp2_with (first | (go_at_call 113; refine (l1Small_any 10 _ ?_).mono ?_; omega; rintro e w1 ⟨t, rfl, ht, hb1⟩; rw [smallL_10] at ht; have hts : t.size = 2 := (by show t.data.toList.length = 2; rw [ht]; rfl); have HT := Lib.hid ht; clear ht) | (go_at_call 117; refine (l1Div_any _ _ _ ?_ ?_ hD.out.1 (by rw [HT.out]; exact dec10) (by rw [HT.out, vl10]; omega)).mono ?_; omega; omega; rintro e w2 ⟨q, r, rfl, k1, k2, k3, k4, k5, hb2⟩; rw [HT.out, vl10] at k3 k4; have K1 := Lib.hid k1; have K2 := Lib.hid k2; have K3 := Lib.hid k3; have K4 := Lib.hid k4; clear k1 k2 k3 k4))
    obtain ⟨x, hrx, hxd⟩ := one_digit K2.out K4.out
    have hrs : r.size = 1 := by
      show r.data.toList.length = 1
      rw [hrx]; rfl
    have hr0 : r[0]'(by omega) = x := by
      have h1 : r.data.toList[0]? = some x := by rw [hrx]; rfl
      rw [List.getElem?_eq_getElem (show 0 < r.data.toList.length by show 0 < r.size; omega)] at h1
      exact Option.some.inj h1
    have hx9 := dg_le hxd
    have hxo : off48 x = dg x := off48_dig hxd
    have hq : q.size ≤ 100000 := by
      have h1 : n.data.toList.length = n.size := rfl
      omega
    have HR0 := Lib.hid hr0
    have HXO := Lib.hid hxo
    have HRX := Lib.hid hrx
    clear hrx hxd hr0 hxo k5
    go_loopw [8, 9] (fun d i wi => wi = w2 ∧ ((i = .int .i64 0 ∧ d = .int .i64 0) ∨ (i = .int .i64 1 ∧ d = .int .i64 (dg x : Nat)))) (fun d i wi => 1 - (intOf i).toNat)
    case atStart => exact ⟨rfl, .inl ⟨rfl, rfl⟩⟩
    case round =>
      obtain ⟨rfl, ⟨rfl, rfl⟩ | ⟨rfl, rfl⟩⟩ := hrel
      · go_wp2
        have h1 := HR0.out
        refine ⟨⟨trivial, .inr ⟨rfl, ?_⟩⟩, by simp [intOf]⟩
        rw [h1]
        exact congrArg (Value.int .i64) HXO.out
      · have hs := spellB
        have hd0 : (0 : Int) ≤ (dg x : Nat) := by omega
        by_cases h0 : q.data.toList = [48]
        · have ht : (q.toList == [48]) = true := by rw [isTxt, decide_eq_true h0]
          go_wp2
          go_ret
          exact ⟨_, rfl, by rw [ByteArray.size_append]; show 1 + out.size ≤ a.size; omega, ((hbel.trans (hb1.mono hbel.size)).trans (hb2.mono (Nat.le_trans hbel.size hb1.size))).alloc (Nat.le_trans (Nat.le_trans hbel.size hb1.size) hb2.size) _⟩
        · have ht : (q.toList == [48]) = false := by rw [isTxt, decide_eq_false h0]
          go_wp2
          have hsz : ∀ y : UInt8, ((⟨#[y]⟩ : ByteArray) ++ out).size = out.size + 1 := fun y => by
            rw [ByteArray.size_append]
            show 1 + out.size = _
            omega
          have hq0 : 0 < vl q.data.toList := Nat.pos_of_ne_zero fun e => h0 (K1.out.zero.1 e)
          have hst := hD.out.step K1.out K3.out hq0
          refine ⟨⟨q, _, rfl, rfl, ((hbel.trans (hb1.mono hbel.size)).trans (hb2.mono (Nat.le_trans hbel.size hb1.size))).alloc (Nat.le_trans (Nat.le_trans hbel.size hb1.size) hb2.size) _, hq, ?_, ?_⟩, ?_⟩
          · rw [hsz]
            exact hst.lt KA.out
          · rw [hsz]
            exact hst
          · show vl q.data.toList < vl n.data.toList
            have := K3.out
            omega
end Go.Proofs.YtjpkmcaogekkdaaDoor.Nu
