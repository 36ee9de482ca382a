/- Small functions of the program, walked. -/
import Derived.Test.YtjpkmcaogekkdaaDoorRmM
namespace Go.Proofs.YtjpkmcaogekkdaaDoor.Rm
open Go.RowKit
set_option linter.unusedVariables false
set_option linter.unusedSimpArgs false

theorem count_any (s : Int) (t : ByteArray) (a : Option Addr) (m c : Nat) (w : World) (hm : m * 8 ≤ 140737488351232) :
    Calls Tryd.prog 35 #[.agg #[.int .i64 s, .string t, .slice a m c]] w fun e w' => e = .returned (.bool (cntOk s m)) ∧ Below w.heap.size w w' := by
  by_cases h7 : s = 7
  · subst h7
    by_cases h2 : m = 2
    · subst h2
      go_enter Tryd.func35, Tryd.ntmps35
      go_wp2
      go_ret
      exact ⟨rfl, below1 _ _⟩
    · have e : cntOk 7 m = false := by simp [cntOk, h2]
      rw [e]
      have h3 : ((m : Int) == 2) = false := by simpa using (by omega : ¬ (m : Int) = 2)
      clear e
      go_enter Tryd.func35, Tryd.ntmps35
      go_wp2
      go_ret
      exact ⟨rfl, below1 _ _⟩
  · by_cases h8 : s = 8
    · subst h8
      by_cases h2 : m ≤ 40
      · have e : cntOk 8 m = true := by simp [cntOk, h2]
        rw [e]
        have h3 : (m : Int) ≤ 40 := by omega
        clear e
        go_enter Tryd.func35, Tryd.ntmps35
        go_wp2
        go_ret
        exact ⟨rfl, below1 _ _⟩
      · have e : cntOk 8 m = false := by simp [cntOk, h2]
        rw [e]
        have h3 : ¬ (m : Int) ≤ 40 := by omega
        clear e
        go_enter Tryd.func35, Tryd.ntmps35
        go_wp2
        go_ret
        exact ⟨rfl, below1 _ _⟩
    · by_cases h2 : m = 0
      · subst h2
        have e : cntOk s 0 = true := by simp [cntOk, h7, h8]
        rw [e]
        clear e
        go_enter Tryd.func35, Tryd.ntmps35
        go_wp2
        go_ret
        exact ⟨rfl, below1 _ _⟩
      · have e : cntOk s m = false := by simp [cntOk, h7, h8, h2]
        rw [e]
        have h3 : ((m : Int) == 0) = false := by simpa using (by omega : ¬ (m : Int) = 0)
        clear e
        go_enter Tryd.func35, Tryd.ntmps35
        go_wp2
        go_ret
        exact ⟨rfl, below1 _ _⟩

theorem pl1_go (b o m c g n nc : Nat) (na : Option Addr) (xs : List Int) (w : World) (hn : n * 48 ≤ 140737488351232) (hm : m * 8 ≤ 140737488351232) (hxs : xs.length = m)
    (hg : w.cell? ⟨g, 0, none⟩ = some (.slice na n nc)) (hx : ∀ i x, xs[i]? = some x → w.cell? ⟨b, o + i, none⟩ = some (.int .i64 x)) :
    Calls Tryd.prog 52 #[.slice (some ⟨b, o, none⟩) m c, .pointer (some ⟨g, 0, none⟩)] w fun e w' => e = .returned (.bool (xs.all (inR n))) ∧ w = w' := by
  have HX := Lib.hid hx
  have HN := Lib.hid hxs
  clear hx hxs
  go_enter Tryd.func52, Tryd.ntmps52
  go_wp2
  go_loopw [8] (fun i wr => ∃ k : Nat, k ≤ m ∧ i = .int .i64 k ∧ wr = w ∧ Hid ((xs.take k).all (inR n) = true)) (fun i wr => m - (intOf i).toNat)
  case atStart => exact ⟨0, by omega, rfl, rfl, by simp [Hid]⟩
  case round =>
    obtain ⟨k, hk, rfl, rfl, ha⟩ := hrel
    have hk0 : (0 : Int) ≤ k := by omega
    by_cases hlt : k < m
    · obtain ⟨x, hxk⟩ := getSome xs k (by rw [HN.out]; exact hlt)
      have cx := HX.out k x hxk
      have HK := Lib.hid hxk
      clear hxk
      by_cases h0 : x < 0
      · go_wp2
        go_ret
        have hf : xs.all (inR n) = false := by
          rw [List.all_eq_false]
          refine ⟨x, List.mem_of_getElem? HK.out, ?_⟩
          simp [inR]; omega
        rw [hf]
        exact ⟨rfl, rfl⟩
      · have h00 : (0 : Int) ≤ x := by omega
        have hd : decide (x < 0) = false := by simpa using h0
        by_cases h1 : x < n
        · have h2 : ¬ (n : Int) ≤ x := by omega
          go_wp2
          refine ⟨⟨k + 1, by omega, by go_num, by trivial, ?_⟩, by simp [intOf]; omega⟩
          show _ = _
          rw [take_snoc' xs k x HK.out, List.all_append, ha.out]
          simp [inR, h00, h1]
        · have h2 : (n : Int) ≤ x := by omega
          go_wp2
          go_ret
          have hf : xs.all (inR n) = false := by
            rw [List.all_eq_false]
            refine ⟨x, List.mem_of_getElem? HK.out, ?_⟩
            simp [inR]; omega
          rw [hf]
          exact ⟨rfl, rfl⟩
    · go_wp2
      go_ret
      have e : xs.take k = xs := List.take_of_length_le (by rw [HN.out]; omega)
      rw [e] at ha
      rw [ha.out]
      exact ⟨rfl, rfl⟩

theorem pl1_nil (a : Option Addr) (c g : Nat) (w : World) :
    Calls Tryd.prog 52 #[.slice a 0 c, .pointer (some ⟨g, 0, none⟩)] w fun e w' => e = .returned (.bool true) ∧ w = w' := by
  go_enter Tryd.func52, Tryd.ntmps52
  go_wp2
  go_loopw [8] (fun i wr => i = .int .i64 0 ∧ wr = w) (fun i wr => 0)
  case atStart => exact ⟨rfl, rfl⟩
  case round =>
    obtain ⟨rfl, rfl⟩ := hrel
    go_wp2
    go_ret
    exact ⟨rfl, rfl⟩

theorem pl1_any (P : Nat → Prop) (v : Value) (g n nc : Nat) (na : Option Addr) (xs : List Int) (w : World) (hn : n * 48 ≤ 140737488351232) (hv : Ints w P v xs)
    (hg : w.cell? ⟨g, 0, none⟩ = some (.slice na n nc)) :
    Calls Tryd.prog 52 #[v, .pointer (some ⟨g, 0, none⟩)] w fun e w' => e = .returned (.bool (xs.all (inR n))) ∧ w = w' := by
  obtain ⟨h0, ⟨b, o, c, rfl, hb, hc⟩ | ⟨rfl, a, c, rfl⟩⟩ := hv
  · exact pl1_go b o _ c g n nc na xs w hn h0 rfl hg hc
  · exact pl1_nil a c g w

/-- all places in range -/
def plOk (ns : List Nd) (rs : List Int) : Bool := ns.all (fun d => d.kids.all (inR ns.length)) && rs.all (inR ns.length)

set_option maxRecDepth 100000 in
theorem places_go (w : World) (P : Nat → Prop) (b o c n : Nat) (rv : Value) (ns : List Nd) (rs : List Int) (hb : b < w.heap.size) (hP : ∀ b, P b → b < w.heap.size) (hn : ns.length = n) (hsz : n * 48 ≤ 140737488351232)
    (hx : ∀ i d, ns[i]? = some d → w.cell? ⟨b, o + i * 3, none⟩ = some (.int .i64 d.sort) ∧ w.cell? ⟨b, o + i * 3 + 1, none⟩ = some (.string d.text) ∧ d.text.size ≤ 140737488351232 ∧ ∃ kv, w.cell? ⟨b, o + i * 3 + 2, none⟩ = some kv ∧ Ints w P kv d.kids)
    (hr : Ints w P rv rs) :
    Calls Tryd.prog 34 #[.agg #[.slice (some ⟨b, o, none⟩) n c, rv]] w fun e w' => e = .returned (.bool (plOk ns rs)) ∧ Below w.heap.size w w' := by
  have HX := Lib.hid hx
  have HN := Lib.hid hn
  have HP := Lib.hid hP
  have HR := Lib.hid hr
  clear hx hn hP hr
  go_enter Tryd.func34, Tryd.ntmps34
  go_wp2
  have hW1 := below1 w (.cells #[.slice (some ⟨b, o, none⟩) n c, rv] 38)
  have B0 := Blk.new w #[.slice (some ⟨b, o, none⟩) n c, rv] 38
  go_loopw [10] (fun i wr => ∃ k : Nat, k ≤ n ∧ i = .int .i64 k ∧ Below w.heap.size w wr ∧ Blk wr w.heap.size #[.slice (some ⟨b, o, none⟩) n c, rv] 38 ∧ Hid (∀ j d, j < k → ns[j]? = some d → d.kids.all (inR n) = true)) (fun i wr => n - (intOf i).toNat)
  case atStart => exact ⟨0, by omega, rfl, hW1, B0, fun j d h => by omega⟩
  case round =>
    obtain ⟨k, hk, rfl, hbel, hB, hall⟩ := hrel
    have hk0 : (0 : Int) ≤ k := by omega
    have c0 := hB.cell0 (o := 0) rfl
    have c1 := hB.cell0 (o := 1) rfl
    clear hW1 B0
    by_cases hlt : k < n
    · obtain ⟨d, hd⟩ := getSome ns k (by rw [HN.out]; exact hlt)
      obtain ⟨a0, a1, a2, kv, a3, a4⟩ := HX.out k d hd
      obtain ⟨ka, kc, rfl⟩ := a4.shape
      have e0 := (hbel.cell (p := ⟨b, o + k * 3, none⟩) hb).trans a0
      have e1 := (hbel.cell (p := ⟨b, o + k * 3 + 1, none⟩) hb).trans a1
      have e2 := (hbel.cell (p := ⟨b, o + k * 3 + 2, none⟩) hb).trans a3
      have hk1 : (k : Int) < n := by omega
      have HD := Lib.hid hd
      have HC := Lib.hid (fun wx (hx : Below wr.heap.size wr wx) => pl1_any P (.slice ka d.kids.length kc) w.heap.size n c (some ⟨b, o, none⟩) d.kids wx hsz (a4.same fun g hg => (hx.block g (Nat.lt_of_lt_of_le (HP.out g hg) hbel.size)).trans (hbel.block g (HP.out g hg))) ((hx.cell (p := ⟨w.heap.size, 0, none⟩) hB.lt).trans c0))
      clear a0 a1 a2 a3 a4 hd
      generalize hko : d.kids.all (inR n) = ko at *
      cases ko
      · go_wp2_with fail
        refine (HC.out _ (below1 _ _)).mono ?_
        rintro e w1 ⟨rfl, rfl⟩
        go_wp2
        go_ret
        have hno : plOk ns rs = false := by
          have : ns.all (fun d => d.kids.all (inR ns.length)) = false := by
            rw [List.all_eq_false]
            refine ⟨d, List.mem_of_getElem? HD.out, ?_⟩
            rw [HN.out, hko]
            simp
          rw [plOk, this, Bool.false_and]
        rw [hno]
        exact ⟨rfl, hbel.alloc hbel.size _⟩
      · go_wp2_with fail
        refine (HC.out _ (below1 _ _)).mono ?_
        rintro e w1 ⟨rfl, rfl⟩
        go_wp2
        refine ⟨⟨k + 1, by omega, by go_num, hbel.alloc hbel.size _, hB.alloc _, fun j d' hj hd' => ?_⟩, by simp [intOf]; omega⟩
        by_cases hjk : j = k
        · subst hjk
          have := HD.out.symm.trans hd'
          rw [← Option.some.inj this]
          exact hko
        · exact hall.out j d' (by omega) hd'
    · have HC := Lib.hid (fun wx (hx : Below wr.heap.size wr wx) => pl1_any P rv w.heap.size n c (some ⟨b, o, none⟩) rs wx hsz (HR.out.same fun g hg => (hx.block g (Nat.lt_of_lt_of_le (HP.out g hg) hbel.size)).trans (hbel.block g (HP.out g hg))) ((hx.cell (p := ⟨w.heap.size, 0, none⟩) hB.lt).trans c0))
      go_wp2_with fail
      refine (HC.out _ (Below.refl _ _)).mono ?_
      rintro e w1 ⟨rfl, rfl⟩
      go_wp2
      go_ret
      have hyes : plOk ns rs = rs.all (inR n) := by
        have : ns.all (fun d => d.kids.all (inR ns.length)) = true := by
          rw [List.all_eq_true]
          intro d hd
          obtain ⟨j, hj, rfl⟩ := List.getElem_of_mem hd
          rw [HN.out]
          exact hall.out j _ (by have := HN.out; omega) (List.getElem?_eq_getElem hj)
        rw [plOk, this, Bool.true_and, HN.out]
      rw [hyes]
      exact ⟨rfl, hbel⟩
end Go.Proofs.YtjpkmcaogekkdaaDoor.Rm
