/- Decimals in the reference, walked: the text of digits, small numbers. -/
import Derived.Test.YtjpkmcaogekkdaaDoorNuA
import Derived.Deep.RegionLaw
namespace Go.Proofs.YtjpkmcaogekkdaaDoor.Nu
open Go.RowKit Go.Proofs.YtjpkmcaogekkdaaDoor.Rm
set_option linter.unusedVariables false
set_option linter.unusedSimpArgs false

theorem i64_w (x : Int) : IntKind.i64.wrap x = wrap64 x := by
  rw [IntKind.wrap_i64]
  unfold wrap64
  rfl
theorem info5 : (Tryd.prog.info? 5).map (fun i => (i.zero, i.size, i.bytes)) = some (some (.int .u8 0), 1, 1) := by kernel_rfl
def zbytes (n : Nat) : Array Value := madeCells #[.int .u8 0] n
theorem make_bytes (n : Nat) (hn : n ≤ 140737488351232) (w : World) :
    (Instr.makeSlice 44 (.int .i64 n) (.int .i64 n)).run Tryd.prog w = .ok (.slice (some ⟨w.heap.size, 0, none⟩) n n) (w.alloc (.cells (zbytes n) 5)) := by
  obtain ⟨i0, hi, hz0, hz1, hz2⟩ := info_parts info5
  have := run_make (P := Tryd.prog) w 44 5 i0 (.int .u8 0) Tryd.underlying44 hi hz0 .i64 .i64 n n (by omega) (Int.le_refl _) (by rw [hz2]; omega) (by omega)
  rw [this]
  simp only [Int.toNat_natCast, hz1, Nat.mul_one]
  rfl
/-- Block g holds these bytes, and no more. -/
def BRow (w : World) (g : Nat) (xs : List UInt8) : Prop := ∃ C, Blk w g C 5 ∧ C.size = xs.length ∧ ∀ (i : Nat) (x : UInt8), xs[i]? = some x → C[i]? = some (.int .u8 (x.toNat : Int))
theorem BRow.cell {w : World} {g : Nat} {xs : List UInt8} (h : BRow w g xs) {i : Nat} {x : UInt8} (hi : xs[i]? = some x) : w.cell? ⟨g, i, none⟩ = some (.int .u8 (x.toNat : Int)) := by
  obtain ⟨C, hB, _, hc⟩ := h
  exact hB.cell0 (hc i x hi)
theorem BRow.lt {w : World} {g : Nat} {xs : List UInt8} (h : BRow w g xs) : g < w.heap.size := by
  obtain ⟨C, hB, _, hc⟩ := h
  exact hB.lt
theorem BRow.free {w : World} {g : Nat} {xs : List UInt8} (h : BRow w g xs) (i : Nat) : w.frozen? ⟨g, i, none⟩ = false := by
  obtain ⟨C, hB, _, hc⟩ := h
  exact hB.free i
theorem BRow.set {w : World} {g : Nat} {xs : List UInt8} (h : BRow w g xs) (o : Nat) (x : UInt8) : BRow (w.setCell ⟨g, o, none⟩ (.int .u8 (x.toNat : Int))) g (xs.set o x) := by
  obtain ⟨C, hB, h1, hc⟩ := h
  refine ⟨_, hB.set o _, by simp [h1], fun i y hy => ?_⟩
  by_cases hio : i = o
  · subst hio
    have hl : i < xs.length := by
      have := (List.getElem?_eq_some_iff.1 hy).1
      simpa using this
    rw [List.getElem?_set_self hl] at hy
    rw [Array.getElem?_setIfInBounds_self_of_lt (by omega), ← Option.some.inj hy]
  · rw [List.getElem?_set_ne (by omega)] at hy
    rw [Array.getElem?_setIfInBounds_ne (by omega)]
    exact hc i y hy
theorem BRow.zeros (w : World) (n : Nat) : BRow (w.alloc (.cells (zbytes n) 5)) w.heap.size (List.replicate n 0) := by
  refine ⟨_, Blk.new _ _ _, by simp [zbytes, size_madeCells], fun i x hi => ?_⟩
  obtain ⟨h1, h2⟩ := List.getElem?_eq_some_iff.1 hi
  simp at h1 h2
  rw [← Array.getElem?_toList, zbytes, toList_madeCells_one, ← h2]
  simp [h1]
theorem BRow.string {w : World} {g : Nat} {xs : List UInt8} (h : BRow w g xs) (n c : Nat) (hn : n = xs.length) :
    (convert 44 9 (.slice (some ⟨g, 0, none⟩) n c)).run Tryd.prog w = .ok (.string ⟨xs.toArray⟩) w := by
  subst hn
  refine run_convert_bytes_back w 44 9 5 ⟨g, 0, none⟩ c xs (by kernel_rfl) (by kernel_rfl) (by kernel_rfl) fun j hj => ?_
  have := h.cell (List.getElem?_eq_getElem hj)
  have e : (⟨g, 0, none⟩ : Addr).add j = ⟨g, j, none⟩ := by
    unfold Addr.add
    split <;> simp_all
  rw [e]
  exact this
theorem dch_w (x : Int) : wrap64 (48 + x) % 256 = ((dch x).toNat : Int) := by
  rw [dch_toNat]
  unfold wrap64
  omega

def TextPost (xs : List Int) (w : World) (e : Ending) (w' : World) : Prop := ∃ r : ByteArray, e = .returned (.string r) ∧ r.data.toList = textL xs ∧ Below w.heap.size w w'

set_option maxRecDepth 100000 in
theorem l1Text_go (b o c n : Nat) (xs : List Int) (w : World) (hn : xs.length = n) (h0 : 0 < n) (hsz : n * 8 ≤ 140737488351232) (hb : b < w.heap.size)
    (hx : ∀ i x, xs[i]? = some x → w.cell? ⟨b, o + i, none⟩ = some (.int .i64 x)) :
    Calls Tryd.prog 132 #[.slice (some ⟨b, o, none⟩) n c] w (TextPost xs w) := by
  have HX := Lib.hid hx
  have HN := Lib.hid hn
  have HMK := make_bytes n (by omega)
  clear hx hn
  go_enter Tryd.func132, Tryd.ntmps132
  go_wp2
  go_loopw [4] (fun i wr => ∃ k : Nat, k ≤ n ∧ i = .int .i64 k ∧ Below w.heap.size w wr ∧ ∃ X : List UInt8, BRow wr w.heap.size X ∧ Hid (X.length = n ∧ ∀ j, j < k → X[n - 1 - j]? = xs[j]?.map dch)) (fun i wr => n - (intOf i).toNat)
  case atStart => exact ⟨0, by omega, rfl, below1 _ _, _, BRow.zeros _ _, by simp, fun j hj => by omega⟩
  case round =>
    obtain ⟨k, hk, rfl, hbel, X, hX, hXX⟩ := hrel
    have hk0 : (0 : Int) ≤ k := by omega
    by_cases hlt : k < n
    · obtain ⟨x, hxk⟩ := getSome xs k (by rw [HN.out]; exact hlt)
      have cx := (hbel.cell (p := ⟨b, o + k, none⟩) hb).trans (HX.out k x hxk)
      have hXl := hXX.out.1
      obtain ⟨old, ho⟩ : ∃ x, X[n - 1 - k]? = some x := ⟨_, List.getElem?_eq_getElem (by omega)⟩
      have c0 := hX.cell ho
      have f0 := hX.free (n - 1 - k)
      have hgl := hX.lt
      have hbw : b < wr.heap.size := Nat.lt_of_lt_of_le hb hbel.size
      have HXK := Lib.hid hxk
      clear hxk hXl ho
      go_wp2
      rw [dch_w]
      refine ⟨⟨k + 1, by omega, by go_num, hbel.setCell (Nat.le_refl _) _, _, hX.set _ _, by simp; exact hXX.out.1, fun j hj => ?_⟩, by simp [intOf]; omega⟩
      have h1 := hXX.out.1
      by_cases hjk : j = k
      · subst hjk
        rw [List.getElem?_set_self (by omega), HXK.out]
        rfl
      · rw [List.getElem?_set_ne (by omega)]
        exact hXX.out.2 j (by omega)
    · have hXl := hXX.out.1
      have hkn : k = n := by omega
      subst hkn
      have HCV := hX.string k k hXl.symm
      go_wp2_with (go_at_call 118; refine (l1Trim_any _ _ (by show (X.toArray).size ≤ _; simp; omega)).mono ?_; rintro e w' ⟨⟨r, rfl, hr⟩, rfl⟩)
      go_ret
      refine ⟨r, rfl, ?_, hbel⟩
      rw [hr, textL, if_neg (by intro e; have := HN.out; rw [e] at this; simp at this; omega)]
      congr 1
      refine List.ext_getElem? fun m => ?_
      rcases Nat.lt_or_ge m k with hm | hm
      · have h1 := hXX.out.2 (k - 1 - m) (by omega)
        rw [show k - 1 - (k - 1 - m) = m by omega] at h1
        show X[m]? = _
        rw [h1, List.getElem?_reverse (by rw [List.length_map, HN.out]; exact hm), List.length_map, HN.out, List.getElem?_map]
      · show X[m]? = _
        rw [List.getElem?_eq_none (by omega), List.getElem?_eq_none (by rw [List.length_reverse, List.length_map, HN.out]; exact hm)]

theorem l1Text_nil (a : Option Addr) (c : Nat) (w : World) : Calls Tryd.prog 132 #[.slice a 0 c] w (TextPost [] w) := by
  have HMK : ∀ w, (Instr.makeSlice 44 (.int .i64 0) (.int .i64 0)).run Tryd.prog w = .ok (.slice (some ⟨w.heap.size, 0, none⟩) 0 0) (w.alloc (.cells (zbytes 0) 5)) := make_bytes 0 (by omega)
  go_enter Tryd.func132, Tryd.ntmps132
  go_wp2
  go_loopw [4] (fun i wr => i = .int .i64 0 ∧ wr = w.alloc (.cells (zbytes 0) 5)) (fun i wr => 0)
  case atStart => exact ⟨rfl, rfl⟩
  case round =>
    obtain ⟨rfl, rfl⟩ := hrel
    go_wp2
    go_ret
    exact ⟨_, rfl, rfl, below1 _ _⟩

theorem l1Text_own (v : Value) (xs : List Int) (lo : Nat) (w : World) (h : OwnRow w lo v xs) (hsz : xs.length * 8 ≤ 140737488351232) : Calls Tryd.prog 132 #[v] w (TextPost xs w) := by
  obtain ⟨a, c, rfl, hc⟩ := h.shape
  by_cases he : xs = []
  · subst he
    exact l1Text_nil a c w
  · obtain ⟨g, rfl, _, hg, hx⟩ := hc he
    exact l1Text_go g 0 c _ xs w rfl (List.length_pos_iff.2 he) hsz hg (fun i x hi => by rw [Nat.zero_add]; exact hx i x hi)

def smallL (n : Nat) : List UInt8 := if n < 10 then [dch n] else smallL (n / 10) ++ [dch ((n % 10 : Nat) : Int)]
termination_by n
theorem smallL_len : ∀ (k n : Nat), n < 10 ^ (k + 1) → (smallL n).length ≤ k + 1
  | 0, n, h => by rw [smallL, if_pos (by omega)]; simp
  | k + 1, n, h => by
    rw [smallL]
    split
    · simp
    · have := smallL_len k (n / 10) (by rw [Nat.pow_succ] at h; omega)
      simp only [List.length_append, List.length_cons, List.length_nil]
      omega
theorem smallL_size (n : Nat) (h : n ≤ 1000000000000) : (smallL n).length ≤ 13 := smallL_len 12 n (by omega)
theorem smallL_dec : ∀ n : Nat, Digs (smallL n) ∧ smallL n ≠ []
  | n => by
    rw [smallL]
    split
    · exact ⟨Digs.one (dch_dig (by omega) (by omega)).1, by simp⟩
    · exact ⟨(smallL_dec (n / 10)).1.app (Digs.one (dch_dig (by omega) (by omega)).1), by simp⟩
termination_by n => n

theorem bapp (r s : ByteArray) : (r ++ s).data.toList = r.data.toList ++ s.data.toList := by simp [ByteArray.data_append]
theorem spell0 (x : Int) (h0 : 0 ≤ x) (h9 : x ≤ 9) (w w' : World) (hw : Below (w.alloc (.cells #[.int .u8 (48 + x)] 5)).heap.size (w.alloc (.cells #[.int .u8 (48 + x)] 5)) w') :
    (convert 44 9 (.slice (some ⟨w.heap.size, 0, none⟩) 1 1)).run Tryd.prog w' = .ok (.string ⟨#[dch x]⟩) w' := by
  have hv := dch_toNat x
  rw [Int.emod_eq_of_lt (by omega) (by omega)] at hv
  have hB : Blk (w.alloc (.cells #[.int .u8 (48 + x)] 5)) w.heap.size #[.int .u8 (48 + x)] 5 := Blk.new _ _ _
  have h : BRow w' w.heap.size [dch x] := ⟨_, hB.below hw, rfl, fun i y hi => by
    have hl := (List.getElem?_eq_some_iff.1 hi).1
    obtain rfl : i = 0 := by simpa using hl
    obtain rfl := Option.some.inj hi
    rw [hv]
    rfl⟩
  exact h.string 1 1 rfl
theorem spell1 (x : Int) (h0 : 0 ≤ x) (h9 : x ≤ 9) (w : World) : (convert 44 9 (.slice (some ⟨w.heap.size, 0, none⟩) 1 1)).run Tryd.prog (w.alloc (.cells #[.int .u8 (48 + x)] 5)) = .ok (.string ⟨#[dch x]⟩) (w.alloc (.cells #[.int .u8 (48 + x)] 5)) :=
  spell0 x h0 h9 w _ (Below.refl _ _)

def SmallPost (n : Nat) (w : World) (e : Ending) (w' : World) : Prop := ∃ r : ByteArray, e = .returned (.string r) ∧ r.data.toList = smallL n ∧ Below w.heap.size w w'

set_option maxHeartbeats 2000000 in
set_option maxRecDepth 100000 in
theorem l1Small_any (n : Nat) : ∀ (w : World), n ≤ 1000000000000 → Calls Tryd.prog 113 #[.int .i64 n] w (SmallPost n w) := by
  induction n using Nat.strongRecOn with
  | _ n ih =>
    intro w hn
    by_cases h : n < 10
    · have hs := spell1 n (by omega) (by omega)
      go_enter Tryd.func113, Tryd.ntmps113
      go_wp2
      go_ret
      exact ⟨_, rfl, by rw [smallL, if_pos h], below1 _ _⟩
    · have HI := Lib.hid (fun w => ih (n / 10) (by omega) w (by omega))
      have hs := spell1 ((n % 10 : Nat) : Int) (by omega) (by omega)
      have HC := Lib.hid (spell0 ((n % 10 : Nat) : Int) (by omega) (by omega))
      have hz := smallL_size (n / 10) (by omega)
      have HZ : Hid (∀ r : ByteArray, r.data.toList = smallL (n / 10) → r.size ≤ 13) := fun r hr => by
        have : r.data.toList.length ≤ 13 := by rw [hr]; exact hz
        exact this
      have e1 : IntKind.i64.wrap ((n : Int) / 10) = ((n / 10 : Nat) : Int) := by rw [i64_w]; unfold wrap64; omega
      have eV : IntKind.u8.wrap (IntKind.i64.wrap (48 + (n : Int).tmod 10)) = 48 + ((n % 10 : Nat) : Int) := by
        rw [i64_w, Int.tmod_eq_emod_of_nonneg (by omega)]
        have : wrap64 (48 + (n : Int) % 10) = 48 + ((n % 10 : Nat) : Int) := by unfold wrap64; omega
        rw [this]
        show (48 + ((n % 10 : Nat) : Int)) % 256 = _
        omega
      have hs2 : ∀ w : World, (convert 44 9 (.slice (some ⟨w.heap.size, 0, none⟩) 1 1)).run Tryd.prog (w.alloc (.cells #[.int .u8 (48 + ((n % 10 : Nat) : Int))] 5)).drew = .ok (.string ⟨#[dch ((n % 10 : Nat) : Int)]⟩) (w.alloc (.cells #[.int .u8 (48 + ((n % 10 : Nat) : Int))] 5)).drew :=
        fun w => HC.out w _ (Below.refl _ _).drew
      rw [← eV] at hs
      rw [← eV] at hs2
      rw [← eV] at HC
      rw [← e1] at HI
      clear ih hz e1 eV
      go_enter Tryd.func113, Tryd.ntmps113
      go_wp2_with fail
      go_region_with (go_at_call 113; refine (HI.out _).mono ?_; rintro e w1 ⟨r, rfl, hr, hb1⟩; have hrs := HZ.out r hr; (try have hcv : (convert 44 9 (.slice (some ⟨w.heap.size, 0, none⟩) 1 1)).run Tryd.prog w1 = .ok (.string ⟨#[dch ((n % 10 : Nat) : Int)]⟩) w1 := HC.out w.drew w1 hb1); dsimp only)
      all_goals go_wp2
      all_goals go_ret
      all_goals
        refine ⟨_, rfl, ?_, ?_⟩
        · rw [bapp, hr, smallL.eq_def n, if_neg h]
          rfl
        · first | exact ((Below.refl _ w).drew.trans hb1).alloc hb1.size _ | exact below_then (below1 w _).drew hb1 (by simp)
end Go.Proofs.YtjpkmcaogekkdaaDoor.Nu
