/- Dividing decimals in the reference, walked. -/
import Derived.Test.YtjpkmcaogekkdaaDoorNuC
namespace Go.Proofs.YtjpkmcaogekkdaaDoor.Nu
open Go.RowKit Go.Proofs.YtjpkmcaogekkdaaDoor.Rm
set_option linter.unusedVariables false
set_option linter.unusedSimpArgs false

def bcells (xs : List UInt8) : List Value := xs.map fun b => Value.int .u8 (b.toNat : Int)
/-- A row of bytes of its own, at lo or above. -/
def OwnB (w : World) (lo : Nat) (v : Value) (xs : List UInt8) : Prop := w.ownsRow lo 5 1 v xs.length (bcells xs)
theorem OwnB.fresh (w : World) {lo : Nat} (h : lo ≤ w.heap.size) : OwnB (w.alloc (.cells #[] 5)) lo (.slice (some ⟨w.heap.size, 0, none⟩) 0 0) [] :=
  World.ownsRow_lit w #[] 0 h (by simp) rfl
theorem OwnB.shape {w : World} {lo : Nat} {v : Value} {xs : List UInt8} (h : OwnB w lo v xs) : ∃ a c, v = .slice a xs.length c ∧ (xs ≠ [] → ∃ g, a = some ⟨g, 0, none⟩ ∧ lo ≤ g ∧ g < w.heap.size ∧ ∀ i x, xs[i]? = some x → w.cell? ⟨g, i, none⟩ = some (.int .u8 (x.toNat : Int))) := by
  obtain ⟨h1, ⟨rfl, h2⟩ | ⟨g, cap, cur, rfl, hb, hg, hc, _, hs, ht⟩⟩ := h
  · refine ⟨none, 0, by rw [h2], fun h => absurd (List.length_eq_zero_iff.1 h2) h⟩
  · refine ⟨_, cap, rfl, fun _ => ⟨g, rfl, hb, (Array.getElem?_eq_some_iff.1 hg).1, fun i x hi => ?_⟩⟩
    have hi2 := (List.getElem?_eq_some_iff.1 hi).1
    have h3 : (cur.toList.take (xs.length * 1))[i]? = (bcells xs)[i]? := by rw [ht]
    rw [List.getElem?_take_of_lt (by omega), bcells, List.getElem?_map, hi] at h3
    have h4 : Blk w g cur 5 := hg
    exact h4.cell0 (by simpa using h3)
theorem OwnB.above {w : World} {lo : Nat} {v : Value} {xs : List UInt8} (h : OwnB w lo v xs) : ∀ g, v.ownBlock = some g → lo ≤ g := fun g hg => (World.ownsRow.lt h g hg).1
theorem OwnB.below {w w' : World} {lo : Nat} {v : Value} {xs : List UInt8} (h : OwnB w lo v xs) (hb : Below w.heap.size w w') : OwnB w' lo v xs := by
  obtain ⟨h1, h2 | ⟨g, cap, cur, rfl, h3, h4, rest⟩⟩ := h
  · exact ⟨h1, .inl h2⟩
  · exact ⟨h1, .inr ⟨g, cap, cur, rfl, h3, (hb.block g (Array.getElem?_eq_some_iff.1 h4).1).trans h4, rest⟩⟩

theorem append_byte (w : World) (lo : Nat) (v : Value) (xs : List UInt8) (x : UInt8) (n : Int) (hn : n = (x.toNat : Int)) (h : OwnB w lo v xs) (hlo : lo ≤ w.heap.size) (hm : xs.length + 1 ≤ 140737488351232) :
    ∃ g cap w', (Builtin.append_ #[44, 44] 44 #[v, .slice (some ⟨w.heap.size, 0, none⟩) 1 1]).run Tryd.prog (w.alloc (.cells #[.int .u8 n] 5)) = .ok (.slice (some ⟨g, 0, none⟩) (xs.length + 1) cap) w' ∧
      OwnB w' lo (.slice (some ⟨g, 0, none⟩) (xs.length + 1) cap) (xs ++ [x]) ∧ Below lo w w' := by
  subst hn
  obtain ⟨i0, hi, hz0, hz1, hz2⟩ := info_parts info5
  obtain ⟨g, cap, w', h1, h2, h3, h4, h5⟩ := run_append_lies (P := Tryd.prog) (w.alloc (.cells #[.int .u8 (x.toNat : Int)] 5)) 44 44 lo 5 i0 _ 1 1 Tryd.underlying44 hi hz0 hz1 hz2 rfl (by omega) v xs.length (bcells xs) (World.ownsRow.alloc h _)
    ⟨w.heap.size, 0, none⟩ 1 1 [.int .u8 (x.toNat : Int)] rfl (World.news_of_block (Blk.new w _ _)) (by simp [Value.oneCell']) (by omega) (by simp only [maxLen]; omega) (by omega) (by simp; omega) _ rfl
  refine ⟨g, cap, w', h1, ?_, ?_⟩
  · have : bcells (xs ++ [x]) = bcells xs ++ [.int .u8 (x.toNat : Int)] := by simp [bcells]
    unfold OwnB
    rw [this, List.length_append]
    exact h2
  · have hgr : w.grownBy w' v.ownBlock := ⟨h3.os, h3.tape, h3.output, by have := h3.size; simp at this; omega, fun k hk hne => by rw [h3.block k (by simp; omega) hne, Below.heap_alloc _ _ _ hk]⟩
    exact grown_below hgr h.above hlo
theorem OwnB.string {w : World} {lo : Nat} {v : Value} {xs : List UInt8} (h : OwnB w lo v xs) (hne : xs ≠ []) : (convert 44 9 v).run Tryd.prog w = .ok (.string ⟨xs.toArray⟩) w := by
  obtain ⟨a, c, rfl, hc⟩ := h.shape
  obtain ⟨g, rfl, _, _, hx⟩ := hc hne
  refine run_convert_bytes_back w 44 9 5 ⟨g, 0, none⟩ c xs (by kernel_rfl) (by kernel_rfl) (by kernel_rfl) fun j hj => ?_
  have := hx j _ (List.getElem?_eq_getElem hj)
  have e : (⟨g, 0, none⟩ : Addr).add j = ⟨g, j, none⟩ := by
    unfold Addr.add
    split <;> simp_all
  rw [e]
  exact this

/-- how far the division is -/
def DivI (a b : List UInt8) (k : Nat) (q r : List UInt8) : Prop :=
  q.length = k ∧ Digs q ∧ Dec r ∧ vl q * vl b + vl r = vl (a.take k) ∧ vl r < vl b
theorem DivI.start {a b : List UInt8} (h : 0 < vl b) : DivI a b 0 [] [48] := ⟨rfl, fun _ h => by simp at h, Dec.one ⟨by decide, by decide⟩, by simp [vl, rv, dg], h⟩
def chd (t : Nat) : UInt8 := dch t
theorem DivI.step {a b q r r0 r1 : List UInt8} {k t : Nat} {x : UInt8} (h : DivI a b k q r) (hx : a[k]? = some x) (hd : vl r0 = 10 * vl r + dg x) (h1 : Dec r1) (ht : vl r1 + t * vl b = vl r0) (hlt : vl r1 < vl b) (h9 : t ≤ 9) :
    DivI a b (k + 1) (q ++ [dch (t : Int)]) r1 := by
  obtain ⟨a1, a2, a3, a4, a5⟩ := h
  have hc := dch_dig (x := (t : Int)) (by omega) (by omega)
  refine ⟨by simp [a1], a2.app (Digs.one hc.1), h1, ?_, hlt⟩
  rw [List.take_add_one, hx]
  simp only [Option.toList]
  rw [vl_snoc, vl_snoc, ← a4]
  have : dg (dch (t : Int)) = t := by omega
  rw [this, Nat.add_mul, Nat.mul_assoc]
  omega
theorem digit_le {r b r0 : List UInt8} {x : UInt8} {v t : Nat} (hlt : vl r < vl b) (hx : Dig x) (hd : vl r0 = 10 * vl r + dg x) (ht : v + t * vl b = vl r0) : t ≤ 9 := by
  have h9 := dg_le hx
  rcases Nat.lt_or_ge 9 t with h | h
  · have := Nat.mul_le_mul_right (vl b) (show 10 ≤ t from h)
    omega
  · exact h

def DivPost (a b : List UInt8) (w : World) (e : Ending) (w' : World) : Prop :=
  ∃ q r : ByteArray, e = .returned (.tuple #[.string q, .string r]) ∧ Dec q.data.toList ∧ Dec r.data.toList ∧ vl q.data.toList * vl b + vl r.data.toList = vl a ∧ vl r.data.toList < vl b ∧ q.size ≤ a.length ∧ Below w.heap.size w w'

set_option maxHeartbeats 2000000 in
set_option maxRecDepth 100000 in
theorem l1Div_any (a b : ByteArray) (w : World) (ha : a.size ≤ 100000000) (hb : b.size ≤ 100000000) (ka : Dec a.data.toList) (kb : Dec b.data.toList) (hv : 0 < vl b.data.toList) :
    Calls Tryd.prog 117 #[.string a, .string b] w (DivPost a.data.toList b.data.toList w) := by
  have KA := Lib.hid ka
  have KB := Lib.hid kb
  have HV := Lib.hid hv
  clear ka kb hv
  go_enter Tryd.func117, Tryd.ntmps117
  go_wp2
  go_loopw [6, 7, 8] (fun v rv i wr => ∃ (k : Nat) (r : ByteArray) (q : List UInt8), i = .int .i64 k ∧ rv = .string r ∧ Below w.heap.size w wr ∧ OwnB wr w.heap.size v q ∧ k ≤ a.size ∧ Hid (DivI a.data.toList b.data.toList k q r.data.toList)) (fun v rv i wr => a.size - (intOf i).toNat)
  case atStart => exact ⟨0, ⟨#[48]⟩, [], rfl, rfl, below1 _ _, OwnB.fresh w (Nat.le_refl _), by omega, DivI.start HV.out⟩
  case round =>
    obtain ⟨k, r, q, rfl, rfl, hbel, hown, hk, hx⟩ := hrel
    have hk0 : (0 : Int) ≤ k := by omega
    have hrs : r.size ≤ b.size := hx.out.2.2.1.len_le KB.out (Nat.le_of_lt hx.out.2.2.2.2)
    have hlen := hx.out.1
    have hsh := hown.shape
    have HOW := Lib.hid hown
    clear hown
    by_cases hc : k < a.size
    · obtain ⟨x, hxk⟩ : ∃ x, a.data.toList[k]? = some x := ⟨_, List.getElem?_eq_getElem hc⟩
      have hxd : Dig x := KA.out.1 x (List.mem_of_getElem? hxk)
      have hsl : (a.extract k (k + 1)).data.toList = [x] := by
        rw [ext_list, show k + 1 - k = 1 by omega, List.drop_eq_getElem_cons hc]
        rw [List.getElem?_eq_getElem hc] at hxk
        simp only [List.take_succ_cons, List.take_zero]
        rw [Option.some.inj hxk]
      have hsz : (a.extract k (k + 1)).size = 1 := by
        show (a.extract k (k + 1)).data.toList.length = 1
        rw [hsl]; rfl
      have HXK := Lib.hid hxk
      have HXD := Lib.hid hxd
      have HSL := Lib.hid hsl
      clear hxk hxd hsl
      go_wp2_with (go_at_call 118; refine (l1Trim_any _ _ ?_).mono ?_; (simp; omega); rintro e w' ⟨⟨r0, rfl, hr0⟩, rfl⟩)
      have hr0e : Dec r0.data.toList ∧ vl r0.data.toList = 10 * vl r.data.toList + dg x ∧ r0.size ≤ r.size + 1 := by
        rw [hr0, bapp, HSL.out]
        refine ⟨trim_dec (hx.out.2.2.1.1.app (Digs.one HXD.out)) (by simp), by rw [vl_trim, vl_snoc], ?_⟩
        have h1 : r0.data.toList.length ≤ r.size + 1 := by
          rw [hr0, bapp, HSL.out]
          exact Nat.le_trans (trim_len _) (by simp)
        exact h1
      have HR0 := Lib.hid hr0e
      clear hr0 hr0e
      generalize wr = wo at *
      go_loopw [7, 9] (fun rv nv wi => ∃ (t : Nat) (r1 : ByteArray), rv = .string r1 ∧ nv = .int .u8 (48 + t) ∧ t ≤ 9 ∧ Below wo.heap.size wo wi ∧ Hid (Dec r1.data.toList ∧ vl r1.data.toList + t * vl b.data.toList = vl r0.data.toList)) (fun rv nv wi => 58 - (intOf nv).toNat)
      case atStart => exact ⟨0, r0, rfl, rfl, by omega, Below.refl _ _, HR0.out.1, by omega⟩
      case round =>
        obtain ⟨t, r1, rfl, rfl, ht9, hbel2, hI⟩ := hrel
        have hsz1 : r1.size ≤ r.size + 1 := by
          have h1 : r1.data.toList.length ≤ r0.data.toList.length := hI.out.1.len_le HR0.out.1 (by have := hI.out.2; omega)
          exact Nat.le_trans h1 HR0.out.2.2
        by_cases hge : vl b.data.toList ≤ vl r1.data.toList
        · have HGE := Lib.hid hge
          have ht8 : t + 1 ≤ 9 := digit_le (v := vl r1.data.toList - vl b.data.toList) (r := r.data.toList) (b := b.data.toList) (r0 := r0.data.toList) (x := x) hx.out.2.2.2.2 HXD.out HR0.out.2.1 (by have := hI.out.2; rw [Nat.add_mul]; omega)
          clear hge
          go_wp2_with (first | (go_at_call 125; refine (l1Cmp_any _ _ _ ?_ ?_ hI.out.1 KB.out).mono ?_; omega; omega; rintro e w' ⟨⟨y, rfl, hy⟩, rfl⟩; have hy0 : 0 ≤ y := hy.2 HGE.out; clear hy) | (go_at_call 126; refine (l1Sub_any _ _ _ ?_ ?_ hI.out.1 KB.out HGE.out).mono ?_; omega; omega; rintro e w' ⟨r2, rfl, hd2, hv2, hb2⟩; have HD2 := Lib.hid hd2; have HV2 := Lib.hid hv2; clear hd2 hv2))
          refine ⟨⟨t + 1, r2, rfl, by go_num, ht8, hbel2.trans (hb2.mono hbel2.size), HD2.out, ?_⟩, by simp [intOf]; omega⟩
          have h1 : vl r2.data.toList = vl r1.data.toList - vl b.data.toList := HV2.out
          have h2 := hI.out.2
          have h3 := HGE.out
          rw [h1, Nat.add_mul]
          omega
        · have HGE := Lib.hid hge
          clear hge
          obtain ⟨g2, cap2, w6, happ, hown6, hb6⟩ := append_byte wr w.heap.size u6 q (dch (t : Int)) (48 + t) (by rw [dch_toNat, Int.emod_eq_of_lt (by omega) (by omega)]) (HOW.out.below hbel2) (Nat.le_trans hbel.size hbel2.size) (by omega)
          have H6 := Lib.hid hown6
          have HB6 := Lib.hid hb6
          clear hown6 hb6
          go_wp2_with (first | (go_at_call 125; refine (l1Cmp_any _ _ _ ?_ ?_ hI.out.1 KB.out).mono ?_; omega; omega; rintro e w' ⟨⟨y, rfl, hy⟩, rfl⟩; have hy0 : ¬ 0 ≤ y := fun h => HGE.out (hy.1 h); clear hy) | (at_builtin; refine wpList_append_run rfl _ _ 44 rfl rfl rfl happ ?_))
          have hO := H6.out
          rw [hlen] at hO
          exact ⟨⟨k + 1, r1, _, by go_num, rfl, hbel.trans ((hbel2.mono hbel.size).trans (HB6.out.mono (Nat.le_refl _))), hO, by omega, hx.out.step HXK.out HR0.out.2.1 hI.out.1 hI.out.2 (Nat.lt_of_not_le HGE.out) ht9⟩, by simp [intOf]; omega⟩
    · obtain rfl : k = a.size := by omega
      have HCV := HOW.out.string (by intro e; rw [e] at hlen; have := KA.out.pos; simp at hlen; have h2 : a.data.toList.length = a.size := rfl; omega)
      go_wp2_with (go_at_call 118; refine (l1Trim_any _ _ ?_).mono ?_; (show q.toArray.size ≤ _; simp; omega); rintro e w' ⟨⟨q1, rfl, hq1⟩, rfl⟩)
      refine bodyPost_ret (v := .tuple #[.string q1, .string r]) (by simp [results, Tryd.results117, go_sem]) rfl ?_
      obtain ⟨x1, x2, x3, x4, x5⟩ := hx.out
      have hqne : q ≠ [] := by
        intro e
        rw [e] at hlen
        have := KA.out.pos
        have h2 : a.data.toList.length = a.size := rfl
        simp at hlen
        omega
      rw [List.take_of_length_le (show a.data.toList.length ≤ a.size from Nat.le_refl _)] at x4
      refine ⟨q1, r, rfl, by rw [hq1]; exact trim_dec x2 hqne, x3, by rw [hq1]; show vl (trimL q) * _ + _ = _; rw [vl_trim]; exact x4, x5, ?_, hbel⟩
      have h3 : q1.data.toList.length ≤ q.length := by rw [hq1]; exact trim_len _
      rw [hlen] at h3
      exact h3
end Go.Proofs.YtjpkmcaogekkdaaDoor.Nu
