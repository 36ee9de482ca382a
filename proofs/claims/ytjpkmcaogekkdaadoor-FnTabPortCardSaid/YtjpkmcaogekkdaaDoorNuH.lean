/- Numbers made, found and checked in the reference, walked. -/
import Derived.Test.YtjpkmcaogekkdaaDoorNuG
namespace Go.Proofs.YtjpkmcaogekkdaaDoor.Nu
open Go.RowKit Go.Proofs.YtjpkmcaogekkdaaDoor.Rm
set_option linter.unusedVariables false
set_option linter.unusedSimpArgs false

theorem three_set {w : World} {b : Nat} {p q r : Value} {t : TypeId} (h : Blk w b #[p, q, r] t) (x y z : Value) :
    Blk (((w.setCell ⟨b, 0, none⟩ x).setCell ⟨b, 1, none⟩ y).setCell ⟨b, 2, none⟩ z) b #[x, y, z] t := ((h.set 0 x).set 1 y).set 2 z
/-- a number comes back, and whether it is one -/
def NumPost (w : World) (e : Ending) (w' : World) : Prop := ∃ (neg : Bool) (a b : ByteArray) (ok : Bool), e = .returned (.tuple #[.agg #[.bool neg, .string a, .string b], .bool ok]) ∧ a.size ≤ 60 ∧ b.size ≤ 60 ∧ Below w.heap.size w w'

set_option maxHeartbeats 2000000 in
set_option maxRecDepth 100000 in
theorem l2Make_any (neg : Bool) (a b : ByteArray) (w : World) (ha : a.size ≤ 10000000) (hb : b.size ≤ 10000000) (ka : Dec a.data.toList) (kb : Dec b.data.toList) :
    Calls Tryd.prog 104 #[.bool neg, .string a, .string b] w (NumPost w) := by
  by_cases h0 : b.data.toList = [48]
  · have ht : (b.toList == [48]) = true := by rw [isTxt, decide_eq_true h0]
    go_enter Tryd.func104, Tryd.ntmps104
    go_wp2
    have B0 : Blk (w.alloc (.cells #[.bool false, .string ⟨#[]⟩, .string ⟨#[]⟩] 129)) w.heap.size #[.bool false, .string ⟨#[]⟩, .string ⟨#[]⟩] 129 := Blk.new _ _ _
    have d0 := B0.cell0 (o := 0) rfl
    have d1 := B0.cell0 (o := 1) rfl
    have d2 := B0.cell0 (o := 2) rfl
    refine bodyPost_ret (v := .tuple #[.agg #[.bool false, .string ⟨#[]⟩, .string ⟨#[]⟩], .bool false]) (by simp [results, Tryd.results104, go_sem, d0, d1, d2]) rfl ?_
    exact ⟨false, _, _, false, rfl, by simp [ByteArray.size], by simp [ByteArray.size], below1 _ _⟩
  · have ht : (b.toList == [48]) = false := by rw [isTxt, decide_eq_false h0]
    have hvb : 0 < vl b.data.toList := Nat.pos_of_ne_zero fun e => h0 (kb.zero.1 e)
    have KA := Lib.hid ka
    have KB := Lib.hid kb
    have HV := Lib.hid hvb
    clear ka kb hvb h0
    go_enter Tryd.func104, Tryd.ntmps104
    go_wp2_with (first | (go_at_call 116; refine (l1Gcd_any _ _ _ ?_ ?_ KA.out KB.out HV.out).mono ?_; omega; omega; rintro e w1 ⟨g, rfl, hg, ⟨hg0, hgs⟩, hb1⟩; have HG := Lib.hid hg; have HG0 := Lib.hid hg0; clear hg hg0))
    have HDa := Lib.hid (fun w => l1Div_any a g w (by omega) (by omega) KA.out HG.out HG0.out)
    have HDb := Lib.hid (fun w => l1Div_any b g w (by omega) (by omega) KB.out HG.out HG0.out)
    have B0 : Blk (w.alloc (.cells #[.bool false, .string ⟨#[]⟩, .string ⟨#[]⟩] 129)) w.heap.size #[.bool false, .string ⟨#[]⟩, .string ⟨#[]⟩] 129 := Blk.new _ _ _
    have B1 := B0.below hb1
    have hB1 := below1b hb1
    clear B0 hb1
    go_wp2_with (go_at_call 117; (with_reducible refine (HDa.out _).mono ?_); rintro e w2 ⟨qa, ra, rfl, _, _, _, _, _, hb2⟩)
    have B2 := B1.below hb2
    have hB2 := below_then hB1 hb2 hB1.size
    clear B1 hB1 hb2
    go_wp2_with (go_at_call 117; (with_reducible refine (HDb.out _).mono ?_); rintro e w3 ⟨qb, rb, rfl, _, _, _, _, _, hb3⟩; have B3 := B2.below hb3; have hB3 := below_then hB2 hb3 hB2.size; have hgl := B3.lt; have c0 := B3.cell0 (o := 0) rfl; have c1 := B3.cell0 (o := 1) rfl; have c2 := B3.cell0 (o := 2) rfl; have f0 := B3.free 0; have f1 := B3.free 1; have f2 := B3.free 2)
    · have B4 := three_set B3 (.bool false) (.string ⟨#[]⟩) (.string ⟨#[]⟩)
      have d0 := B4.cell0 (o := 0) rfl
      have d1 := B4.cell0 (o := 1) rfl
      have d2 := B4.cell0 (o := 2) rfl
      refine bodyPost_ret (v := .tuple #[.agg #[(.bool false), (.string ⟨#[]⟩), (.string ⟨#[]⟩)], .bool false]) (by simp [results, Tryd.results104, go_sem, d0, d1, d2]) rfl ?_
      exact ⟨false, _, _, false, rfl, by simp [ByteArray.size], by simp [ByteArray.size], ((hB3.setCell (Nat.le_refl _) _).setCell (Nat.le_refl _) _).setCell (Nat.le_refl _) _⟩
    · have B4 := three_set B3 (.bool !qa.toList == [48]) (.string qa) (.string qb)
      have d0 := B4.cell0 (o := 0) rfl
      have d1 := B4.cell0 (o := 1) rfl
      have d2 := B4.cell0 (o := 2) rfl
      refine bodyPost_ret (v := .tuple #[.agg #[(.bool !qa.toList == [48]), (.string qa), (.string qb)], .bool true]) (by simp [results, Tryd.results104, go_sem, d0, d1, d2]) rfl ?_
      exact ⟨_, _, _, true, rfl, by omega, by omega, ((hB3.setCell (Nat.le_refl _) _).setCell (Nat.le_refl _) _).setCell (Nat.le_refl _) _⟩
    · have B4 := three_set B3 (.bool false) (.string qa) (.string qb)
      have d0 := B4.cell0 (o := 0) rfl
      have d1 := B4.cell0 (o := 1) rfl
      have d2 := B4.cell0 (o := 2) rfl
      refine bodyPost_ret (v := .tuple #[.agg #[(.bool false), (.string qa), (.string qb)], .bool true]) (by simp [results, Tryd.results104, go_sem, d0, d1, d2]) rfl ?_
      exact ⟨_, _, _, true, rfl, by omega, by omega, ((hB3.setCell (Nat.le_refl _) _).setCell (Nat.le_refl _) _).setCell (Nat.le_refl _) _⟩
    · have B4 := three_set B3 (.bool false) (.string ⟨#[]⟩) (.string ⟨#[]⟩)
      have d0 := B4.cell0 (o := 0) rfl
      have d1 := B4.cell0 (o := 1) rfl
      have d2 := B4.cell0 (o := 2) rfl
      refine bodyPost_ret (v := .tuple #[.agg #[(.bool false), (.string ⟨#[]⟩), (.string ⟨#[]⟩)], .bool false]) (by simp [results, Tryd.results104, go_sem, d0, d1, d2]) rfl ?_
      exact ⟨false, _, _, false, rfl, by simp [ByteArray.size], by simp [ByteArray.size], ((hB3.setCell (Nat.le_refl _) _).setCell (Nat.le_refl _) _).setCell (Nat.le_refl _) _⟩

end Go.Proofs.YtjpkmcaogekkdaaDoor.Nu
