/- The reference's draws: a text out of a list that is written out, digits, numbers, walked. -/
import Derived.Test.YtjpkmcaogekkdaaDoorDwA
import Derived.Test.YtjpkmcaogekkdaaDoorWrC
import Derived.Test.YtjpkmcaogekkdaaDoorNuI
import Derived.Deep.DeepCutAuto
import Derived.Deep.CutBlock
namespace Go.Proofs.YtjpkmcaogekkdaaDoor.Dw
open Go.RowKit Go.Proofs.YtjpkmcaogekkdaaDoor.Rm Go.Proofs.YtjpkmcaogekkdaaDoor.Nu Go.Proofs.YtjpkmcaogekkdaaDoor.Wr
set_option linter.unusedVariables false
set_option linter.unusedSimpArgs false

theorem Rd.carry {w w' : World} {b p : Nat} (h : Rd w b p) (hb : Below (b + 1) w w') : Rd w' b p := by
  obtain ⟨cv, h1, h2⟩ := h
  exact ⟨cv, h1.carry hb (Nat.lt_succ_self b), h2.below (hb.mono (Nat.le_succ b))⟩
theorem FrR.setN {b g : Nat} {w w' : World} (h : FrR b w w') (hg : w.heap.size ≤ g) (o : Nat) (v : Value) : FrR b w (w'.setCell ⟨g, o, none⟩ v) :=
  ⟨h.os, h.tape, h.output, by simpa using h.size, fun k hk hne => (Below.heap_setCell _ _ _ _ (by show k ≠ g; omega)).trans (h.keep k hk hne)⟩
theorem FrR.alloc {b : Nat} {w w' : World} (h : FrR b w w') (x : Obj) : FrR b w (w'.alloc x) :=
  h.trans (FrR.of_below (below1 w' x))
theorem Rd.setN {b g p : Nat} {w : World} (h : Rd w b p) (hg : b < g) (o : Nat) (v : Value) : Rd (w.setCell ⟨g, o, none⟩ v) b p :=
  h.carry ((Below.refl _ _).setCell (by show b + 1 ≤ g; omega) v)

def strOf : Value → ByteArray
  | .string s => s
  | _ => ⟨#[]⟩
def isStr : Value → Bool
  | .string _ => true
  | _ => false
/-- all cells are texts with q -/
def allStr (q : ByteArray → Bool) (C : Array Value) : Bool := C.toList.all fun v => isStr v && q (strOf v)
def LitPost (b p : Nat) (q : ByteArray → Bool) (w : World) (e : Ending) (w' : World) : Prop :=
  ∃ s : ByteArray, e = .returned (.string s) ∧ q s = true ∧ Rd w' b (p + 1) ∧ FrR b w w'
/-- a text out of a list that was just laid -/
theorem of_lit (q : ByteArray → Bool) (w : World) (b p n c : Nat) (C : Array Value) (t : TypeId) (h : Rd w b p) (hp : p ≤ 1000000) (hq : allStr q C = true) (hn : C.size = n) (hn0 : 0 < n) (hn1 : n ≤ 1000) :
    Calls Tryd.prog 59 #[.pointer (some ⟨b, 0, none⟩), .slice (some ⟨w.heap.size, 0, none⟩) n c] (w.alloc (.cells C t)) (LitPost b p q w) := by
  have hb := h.lt
  have hB := Blk.new w C t
  have h1 := h.below (below1 w (.cells C t))
  have hall : ∀ (i : Nat) (v : Value), C[i]? = some v → v = .string (strOf v) ∧ q (strOf v) = true := fun i v hv => by
    rw [allStr, List.all_eq_true] at hq
    have h2 := hq v (by rw [← Array.getElem?_toList] at hv; exact List.mem_of_getElem? hv)
    rw [Bool.and_eq_true] at h2
    refine ⟨?_, h2.2⟩
    cases v <;> first | rfl | exact absurd h2.1 (by simp [isStr])
  refine (of_any (w.alloc (.cells C t)) b p w.heap.size c n (C.toList.map strOf) h1 hp (by simp [hn]) hn0 hn1 (by simp) (by omega) (fun i s hi => ?_)).mono ?_
  · rw [List.getElem?_map, Array.getElem?_toList] at hi
    cases hv : C[i]? with
    | none => rw [hv] at hi; simp at hi
    | some v =>
      rw [hv] at hi
      have h3 := Option.some.inj hi
      rw [hB.cell i, hv, (hall i v hv).1, ← h3]
  · rintro e w' ⟨s, hs, rfl, hR, hF⟩
    obtain ⟨v, hv, rfl⟩ := List.mem_map.1 hs
    obtain ⟨i, hi⟩ := List.getElem?_of_mem hv
    rw [Array.getElem?_toList] at hi
    exact ⟨_, rfl, (hall i v hi).2, hR, (FrR.of_below (below1 w (.cells C t))).trans hF⟩

theorem lit_text (w : World) (b p : Nat) (h : Rd w b p) (hp : p ≤ 1000000) : Calls Tryd.prog 85 #[.pointer (some ⟨b, 0, none⟩)] w (LitPost b p (fun s => decide (s.size ≤ 20)) w) := by
  go_enter Tryd.func85, Tryd.ntmps85
  go_wp2_with (go_at_call 59; refine (of_lit (fun s => decide (s.size ≤ 20)) w b p _ _ _ _ h hp (by rfl) (by rfl) (by decide) (by decide)).mono ?_; rintro e w1 ⟨s, rfl, hs, hR, hF⟩)
  go_ret
  exact ⟨s, rfl, hs, hR, hF⟩

def decB (s : ByteArray) : Bool := s.data.toList.all (fun b => decide (48 ≤ b.toNat ∧ b.toNat ≤ 57)) && !s.data.toList.isEmpty && (decide (s.data.toList.length = 1) || s.data.toList.head? != some 48) && decide (s.size ≤ 60)
theorem decB_dec {s : ByteArray} (h : decB s = true) : Dec s.data.toList ∧ s.size ≤ 60 := by
  simp only [decB, Bool.and_eq_true, Bool.or_eq_true, decide_eq_true_eq, List.all_eq_true] at h
  obtain ⟨⟨⟨h1, h2⟩, h3⟩, h4⟩ := h
  refine ⟨⟨fun b hb => h1 b hb, fun e => ?_, ?_⟩, h4⟩
  · rw [e] at h2
    simp at h2
  · rcases h3 with h3 | h3
    · exact .inl h3
    · right
      rwa [bne_iff_ne] at h3
theorem small_one {r : ByteArray} {k : Nat} (h : r.data.toList = smallL k) (hk : (k : Int) < 10) : r.size ≤ 1 ∧ Digs r.data.toList ∧ r.data.toList ≠ [] := by
  have h1 := smallL_dec k
  have h2 := smallL_len 0 k (by omega)
  rw [h]
  refine ⟨?_, h1⟩
  show r.data.toList.length ≤ 1
  rw [h]
  exact h2
def DigPost (b p : Nat) (w : World) (e : Ending) (w' : World) : Prop :=
  ∃ (s : ByteArray) (p' : Nat), e = .returned (.string s) ∧ Dec s.data.toList ∧ s.size ≤ 60 ∧ Rd w' b p' ∧ p' ≤ p + 100 ∧ FrR b w w'

set_option maxHeartbeats 2000000 in
set_option maxRecDepth 100000 in
theorem digits_any (w : World) (b p : Nat) (h : Rd w b p) (hp : p ≤ 900000) : Calls Tryd.prog 103 #[.pointer (some ⟨b, 0, none⟩)] w (DigPost b p w) := by
  have HP1 := Lib.hid (pick_any w b p 4 h (by omega) (by omega))
  go_enter Tryd.func103, Tryd.ntmps103
  go_upto_block 0 with (first | (go_at_call 60; refine HP2.out.mono ?_; rintro e w2 hd; obtain ⟨k2, rfl, hk2, _, hR2, hF2⟩ := hd; replace hk2 := hk2 (by decide); have hk20 : (0 : Int) ≤ k2 := (by omega)) | (go_at_call 60; refine HP1.out.mono ?_; rintro e w1 hd; obtain ⟨k1, rfl, hk1, _, hR1, hF1⟩ := hd; replace hk1 := hk1 (by decide); have hk10 : (0 : Int) ≤ k1 := (by omega); have HP2 := Lib.hid (pick_any w1 b (p + 1) 8 hR1 (by omega) (by omega))))
  have HP3 := Lib.hid (pick_any w2 b (p + 1 + 1) 30 hR2 (by omega) (by omega))
  have HP4 := Lib.hid (pick_any w2 b (p + 1 + 1) 3 hR2 (by omega) (by omega))
  have HF2 := Lib.hid (hF1.trans hF2)
  clear hF1 hF2 hR1
  go_cut [3] (fun v wc => ∃ (n p' : Nat), v = .int .i64 n ∧ n ≤ 60 ∧ 1 ≤ n ∧ Rd wc b p' ∧ p' ≤ p + 3 ∧ FrR b w wc)
  case first =>
    by_cases h0 : k2 = 0
    · subst h0
      go_wp2_with (go_at_call 60; refine HP3.out.mono ?_; rintro e w3 hd; obtain ⟨k3, rfl, hk3, _, hR3, hF3⟩ := hd; replace hk3 := hk3 (by decide); have hk30 : (0 : Int) ≤ k3 := (by omega))
      go_meet
      case rel => exact ⟨1 + k3, p + 3, congrArg (Value.int .i64) (by omega), by omega, by omega, hR3, by omega, HF2.out.trans hF3⟩
    · go_wp2_with (first | (go_at_call 60; refine HP4.out.mono ?_; rintro e w3 hd; obtain ⟨k3, rfl, hk3, _, hR3, hF3⟩ := hd; replace hk3 := hk3 (by decide); have hk30 : (0 : Int) ≤ k3 := (by omega)) | (go_at_call 59; refine (of_lit decB w2 b (p + 1 + 1) _ _ _ _ hR2 (by omega) (by kernel_rfl) (by rfl) (by decide) (by decide)).mono ?_; rintro e w3 ⟨s, rfl, hs, hR3, hF3⟩))
      · go_meet
        case rel => exact ⟨60 - k3, p + 3, congrArg (Value.int .i64) (by omega), by omega, by omega, hR3, by omega, HF2.out.trans hF3⟩
      · refine bodyPost_ret (v := .string s) (by simp [results, Tryd.results103, go_sem]) rfl ?_
        have hd := decB_dec hs
        exact ⟨s, p + 3, rfl, hd.1, hd.2, hR3, by omega, HF2.out.trans hF3⟩
      · go_meet
        case rel => exact ⟨1 + k1, p + 2, congrArg (Value.int .i64) (by omega), by omega, by omega, hR2, by omega, HF2.out⟩
  case rest =>
    clear hR2 HF2 HP1 HP2 HP3 HP4 hk1 hk10 hk2 hk20
    obtain ⟨n, p1, rfl, hn60, hn1, hR, hp1, hF⟩ := hcut
    go_wp2
    go_loopw [4, 5] (fun o i wr => ∃ (j p2 : Nat) (out : ByteArray), i = .int .i64 j ∧ o = .string out ∧ j ≤ n ∧ out.size ≤ j ∧ Rd wr b p2 ∧ p2 ≤ p1 + j ∧ FrR b w wr ∧ Hid (Digs out.data.toList ∧ (0 < j → out.data.toList ≠ []))) (fun o i wr => n - (intOf i).toNat)
    case atStart => exact ⟨0, p1, _, rfl, rfl, by omega, Nat.le_refl _, hR, by omega, hF, ⟨fun x hx => by simp at hx, by omega⟩⟩
    case round =>
      clear hR hF
      obtain ⟨j, p2, out, rfl, rfl, hj, hos, hR, hp2, hF, hD⟩ := hrel
      have hj0 : (0 : Int) ≤ j := by omega
      by_cases hlt : j < n
      · have HPK := Lib.hid (pick_any wr b p2 10 hR (by omega) (by omega))
        go_wp2_with (first | (go_at_call 113; refine (HSM.out _).mono ?_; rintro e w2 ⟨r, rfl, hr, hb2⟩; have hrs := small_one hr hk) | (go_at_call 60; refine HPK.out.mono ?_; rintro e w1 hd; obtain ⟨k, rfl, hk, _, hR1, hF1⟩ := hd; replace hk := hk (by decide); have HSM := Lib.hid (fun w => l1Small_any k w (by omega))))
        have hdl : (out ++ r).data.toList = out.data.toList ++ r.data.toList := by rw [ByteArray.data_append, Array.toList_append]
        refine ⟨⟨j + 1, p2 + 1, _, by go_num, rfl, by omega, by rw [ByteArray.size_append]; omega, hR1.below hb2, by omega, (hF.trans hF1).trans (FrR.of_below hb2), ?_⟩, by simp [intOf]; omega⟩
        show Digs (out ++ r).data.toList ∧ _
        rw [hdl]
        exact ⟨fun x hx => (List.mem_append.1 hx).elim (hD.out.1 x) (hrs.2.1 x), fun _ e => hrs.2.2 (List.append_eq_nil_iff.1 e).2⟩
      · have HTR := Lib.hid (fun w => l1Trim_any out w (by omega))
        go_wp2_with (go_at_call 118; refine (HTR.out _).mono ?_; rintro e w2 ⟨⟨r, rfl, hr⟩, rfl⟩)
        go_ret
        have hjn : j = n := by omega
        have h1 := trim_dec hD.out.1 (hD.out.2 (by omega))
        have h2 := trim_len out.data.toList
        rw [← hr] at h1 h2
        have h3 : out.data.toList.length = out.size := rfl
        have h4 : r.data.toList.length = r.size := rfl
        exact ⟨r, p2, rfl, h1, by omega, hR, by omega, hF⟩

/-- a number, drawn -/
def NumDPost (b p : Nat) (w : World) (e : Ending) (w' : World) : Prop :=
  ∃ (neg : Bool) (u d : ByteArray) (p' : Nat), e = .returned (.agg #[.bool neg, .string u, .string d]) ∧ u.size ≤ 60 ∧ d.size ≤ 60 ∧ Rd w' b p' ∧ p' ≤ p + 300 ∧ FrR b w w'

set_option maxHeartbeats 2000000 in
set_option maxRecDepth 100000 in
theorem num_any (w : World) (b p : Nat) (h : Rd w b p) (hp : p ≤ 800000) : Calls Tryd.prog 84 #[.pointer (some ⟨b, 0, none⟩)] w (NumDPost b p w) := by
  have hb := h.lt
  have B0 := Blk.new w #[.bool false, .string ⟨#[]⟩, .string ⟨#[]⟩] 129
  have hB0 := below1 w (.cells #[.bool false, .string ⟨#[]⟩, .string ⟨#[]⟩] 129)
  have hR0 := h.below hB0
  have HP1 := Lib.hid (pick_any _ b p 2 hR0 (by omega) (by omega))
  go_enter Tryd.func84, Tryd.ntmps84
  go_upto_if 8 with (go_at_call 60; refine HP1.out.mono ?_; rintro e w1 hd; obtain ⟨k1, rfl, hk1, _, hR1, hF1⟩ := hd; replace hk1 := hk1 (by decide); have hk10 : (0 : Int) ≤ k1 := (by omega))
  have HD1 := Lib.hid (digits_any w1 b (p + 1) hR1 (by omega))
  have hF1' := (FrR.of_below hB0).trans hF1
  have hne : w.heap.size ≠ b := by omega
  have B1 := hF1.blk B0 hne
  clear hF1 hk1 hk10
  go_cut [3] (fun v wc => ∃ (s : ByteArray) (p' : Nat), v = .string s ∧ Dec s.data.toList ∧ s.size ≤ 60 ∧ Rd wc b p' ∧ p' ≤ p + 101 ∧ FrR b w wc ∧ Blk wc w.heap.size #[.bool false, .string ⟨#[]⟩, .string ⟨#[]⟩] 129)
  case first =>
    go_wp2_with (go_at_call 103; refine HD1.out.mono ?_; rintro e w2 hd; obtain ⟨s2, p2, rfl, hs2, hz2, hR2, hp2, hF2⟩ := hd)
    · go_meet
      case rel => exact ⟨s2, p2, rfl, hs2, hz2, hR2, by omega, hF1'.trans hF2, hF2.blk B1 hne⟩
    · go_meet
      case rel => exact ⟨_, p + 1, rfl, Dec.one ⟨by decide, by decide⟩, by decide, hR1, by omega, hF1', B1⟩
  case rest =>
    obtain ⟨s, p2, rfl, hs, hz, hR2, hp2, hF2, B2⟩ := hcut
    clear hR1 HD1 B1 hF1' hR0 B0 HP1
    have HP2 := Lib.hid (pick_any wc b p2 2 hR2 (by omega) (by omega))
    have HS := Lib.hid hs
    clear hs
    go_wp2_with (first | (go_at_call 104; refine HMK.out.mono ?_; rintro e w5 hd; obtain ⟨neg, ua, da, ok, rfl, hua, hda, hb5⟩ := hd; have HB5 := Lib.hid hb5; have hl5 := (B3.below hb5).lt; have b0 := (B3.below hb5).cell0 (o := 0) (v := .bool false) rfl; have b1 := (B3.below hb5).cell0 (o := 1) (v := .string ⟨#[]⟩) rfl; have b2 := (B3.below hb5).cell0 (o := 2) (v := .string ⟨#[]⟩) rfl; have f0 := (B3.below hb5).free 0; have f1 := (B3.below hb5).free 1; have f2 := (B3.below hb5).free 2) | (go_at_call 103; refine HD2.out.mono ?_; rintro e w4 hd; obtain ⟨s4, p4, rfl, hs4, hz4, hR4, hp4, hF4⟩ := hd; have B3 := hF4.blk (hF3.blk B2 hne) hne; have HMK := Lib.hid (l2Make_any ((k3 : Int) == 0) s4 s w4 (by omega) (by omega) hs4 HS.out)) | (go_at_call 60; refine HP2.out.mono ?_; rintro e w3 hd; obtain ⟨k3, rfl, hk3, _, hR3, hF3⟩ := hd; have HD2 := Lib.hid (digits_any w3 b (p2 + 1) hR3 (by omega))))
    · have hF5 := ((hF2.trans hF3).trans hF4).trans (FrR.of_below HB5.out)
      have hR5 := hR4.below HB5.out
      refine bodyPost_ret (v := .agg #[.bool false, .string ⟨#[55]⟩, .string ⟨#[49]⟩]) (by simp [results, Tryd.results84, go_sem, b0, b1, b2, hl5, f0, f1, f2]) rfl ?_
      exact ⟨false, _, _, p4, rfl, by decide, by decide, (((hR5.setN hb _ _).setN hb _ _).setN hb _ _).below (below1 _ _), by omega, (((hF5.setN (Nat.le_refl _) _ _).setN (Nat.le_refl _) _ _).setN (Nat.le_refl _) _ _).alloc _⟩
    · have hF5 := ((hF2.trans hF3).trans hF4).trans (FrR.of_below HB5.out)
      have hR5 := hR4.below HB5.out
      refine bodyPost_ret (v := .agg #[.bool neg, .string ua, .string da]) (by simp [results, Tryd.results84, go_sem, b0, b1, b2, hl5, f0, f1, f2]) rfl ?_
      exact ⟨neg, ua, da, p4, rfl, hua, hda, (((hR5.setN hb _ _).setN hb _ _).setN hb _ _).below (below1 _ _), by omega, (((hF5.setN (Nat.le_refl _) _ _).setN (Nat.le_refl _) _ _).setN (Nat.le_refl _) _ _).alloc _⟩
end Go.Proofs.YtjpkmcaogekkdaaDoor.Dw
