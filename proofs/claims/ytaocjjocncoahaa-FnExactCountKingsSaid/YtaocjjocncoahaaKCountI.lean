/- CountKings, walked on the program's side: the iterator over all tours, and the range over it. -/
import Derived.Test.YtaocjjocncoahaaKCountS
import Derived.Test.YtaocjjocncoahaaRange
import Derived.Shelf.Abstract
import Derived.Shelf.RegionOpen
import Derived.WalkKit
import Derived.OwnWalkIn
import Derived.TacticsInMore
import Derived.LoopNIn
import Derived.LoopIn
namespace Go.Proofs.Ytaocjjocncoahaa
open Go.RowKit

theorem later_pred (n : Nat) (w : World) : PredTwo 64 #[] (fun a b => decide (b < a)) n w := by
  intro W a b _ ha hb hab
  show Calls Try.prog 64 #[.int .i64 (a : Int), .int .i64 (b : Int)] W _
  go_enter Try.func64, Try.ntmps64
  go_wp2
  go_ret
  exact ⟨ret_bool (by rw [decide_eq_decide]), Below.refl _ _⟩
/-- What an iterator over tours says of the world in which it hands one over. -/
def handsTour (n : Nat) (k : Nat) (vs : Array Value) (W : World) : Prop :=
  ∃ A c, vs = #[.agg #[.int .i64 (n : Int), .slice A n c]] ∧ Row W W.heap.size A (ints (casts (gameV n fun j => k.testBit j)))
def keepsAt (B : Nat) (W W' : World) : Prop := W'.heap[B]? = W.heap[B]?
set_option maxHeartbeats 1000000 in
theorem allTours_hands (n : Nat) (h1 : 1 ≤ n) (h5 : n ≤ 5) (Bn m : Nat) (hm : 1 ≤ m) (w : World) (hBn : w.cell? ⟨Bn, 0, none⟩ = some (.int .i64 (n : Int))) :
    HandsOver Fence.wide m Try.prog 62 #[.pointer (some ⟨Bn, 0, none⟩)] (handsTour n) (keepsAt Bn) (2 ^ off n n) w := by
  obtain ⟨p, q, hp, hq, hoff, hq10, hp20⟩ := pairs5 n h1 h5
  obtain ⟨M, hM⟩ : ∃ M, M = 2 ^ q := ⟨_, rfl⟩
  have hM2 : (2 : Int) ^ q = (M : Int) := by rw [hM, pow_cast]
  have hMle : M ≤ 1024 := by rw [hM]; exact (pow10 q hq10).1
  rw [hoff, ← hM]
  have hwp : IntKind.i64.wrap (p : Int) = (p : Int) := by rw [IntKind.wrap_i64]; omega
  have hwq : IntKind.i64.wrap (q : Int) = (q : Int) := by rw [IntKind.wrap_i64]; omega
  have hwM : IntKind.i64.wrap (M : Int) = (M : Int) := by rw [IntKind.wrap_i64]; omega
  have HOFF := Lib.hid hoff
  clear hM hoff
  intro l J W hbW hJ hY hJ0
  have hltB := World.block_lt_of_cell? w _ hBn
  have hB0 := (hbW.cell (p := ⟨Bn, 0, none⟩) hltB).trans hBn
  have HJ := Lib.hid hJ
  have HY := Lib.hid hY
  have HJ0 := Lib.hid hJ0
  clear hJ hY hJ0 hbW hBn
  refine callsIn_of_wp Try.func62 rfl trivial ?_ rfl
  simp only [Try.ntmps62, List.size_toArray, List.length_cons, List.length_nil, Nat.reduceAdd, Nat.reduceSub, Array.replicate_succ, Array.replicate_zero, List.push_toArray, List.append_toArray, List.nil_append, List.cons_append]
  gi_wp2
  gi_loopw [14] (fun i wr => ∃ c : Nat, c ≤ M ∧ i = .int .i64 (c : Int) ∧ J c wr ∧ wr.cell? ⟨Bn, 0, none⟩ = some (.int .i64 (n : Int))) (fun i _ => M - (intOf i).toNat)
  case atStart => exact ⟨0, Nat.zero_le _, rfl, HJ0.out, hB0⟩
  case round =>
    clear hB0 HJ0
    obtain ⟨c, hc, rfl, hJc, hB⟩ := hrel
    obtain ⟨wo, rfl⟩ : ∃ wo : World, wo = wr := ⟨_, rfl⟩
    by_cases hlt : c < M
    · gi_wp2_with fail
      refine ⟨trivial, (callsIn_wide.2 (tourOf_any 64 #[] (enters_of Try.func64 (by kernel_rfl) rfl) (fun a b => decide (b < a)) n wo (later_pred n wo) h1 (by omega))).mono ?_⟩
      rintro e w1 ⟨A, d, rfl, ho, hb1⟩
      have hlen : (casts (rowsOf n fun a b => decide (b < a))).length = n := by rw [casts_length, rowsOf_length]
      rw [hlen]
      rw [game_zero n c] at ho
      have hltr := World.block_lt_of_cell? wo _ hB
      have hz1 := hb1.size
      have hB1 := (hb1.cell (p := ⟨Bn, 0, none⟩) hltr).trans hB
      have hB2 : (w1.alloc (.cells #[.int .i64 (n : Int), .slice A n d] 26)).cell? ⟨Bn, 0, none⟩ = some (.int .i64 (n : Int)) := (World.cell?_alloc_lt _ _ ⟨Bn, 0, none⟩ (Nat.lt_of_lt_of_le hltr hz1)).trans hB1
      gi_wp2
      clear hB1 hB2
      obtain ⟨wa, hwa⟩ : ∃ wa, wa = w1.alloc (.cells #[.int .i64 (n : Int), .slice A n d] 26) := ⟨_, rfl⟩
      rw [← hwa]
      obtain ⟨b5, hb5⟩ : ∃ b, b = w1.heap.size := ⟨_, rfl⟩
      rw [← hb5]
      have x0 : wa.cell? ⟨b5, 0, none⟩ = some (.int .i64 (n : Int)) := by rw [hwa, hb5]; go_simp
      have x1 : wa.cell? ⟨b5, 1, none⟩ = some (.slice A n d) := by rw [hwa, hb5]; go_simp
      have y0 : wa.frozen? ⟨b5, 0, none⟩ = false := by rw [hwa, hb5]; go_simp
      have y1 : wa.frozen? ⟨b5, 1, none⟩ = false := by rw [hwa, hb5]; go_simp
      have hra : Row wa wa.heap.size A (ints (casts (gameV n (curG c 0)))) := by rw [hwa]; exact ((ho.alloc (Nat.le_refl _) _).row.mono (by simp))
      have hba : Below wo.heap.size wo wa := by rw [hwa]; exact hb1.alloc (by omega) _
      have hza : b5 < wa.heap.size := by rw [hwa, hb5]; simp
      have hz5 : wo.heap.size ≤ b5 := by omega
      have HRA := Lib.hid hra
      have HJC := Lib.hid hJc
      clear hwa hb5 ho hb1 hlen hra hJc
      have hBa := (hba.cell (p := ⟨Bn, 0, none⟩) hltr).trans hB
      gi_loopw [4, 21] (fun v i wq => ∃ (a : Nat) (A : Option Addr) (d : Nat), a ≤ n ∧ i = .int .i64 (a : Int) ∧ v = .int .i64 ((c / 2 ^ off n a : Nat) : Int) ∧ wq.cell? ⟨b5, 0, none⟩ = some (.int .i64 (n : Int)) ∧ wq.cell? ⟨b5, 1, none⟩ = some (.slice A n d) ∧ wq.frozen? ⟨b5, 0, none⟩ = false ∧ wq.frozen? ⟨b5, 1, none⟩ = false ∧ Row wq wq.heap.size A (ints (casts (gameV n (curG c (off n a))))) ∧ Below wo.heap.size wo wq ∧ b5 < wq.heap.size) (fun _ i _ => n - (intOf i).toNat)
      case atStart => exact ⟨0, A, d, Nat.zero_le _, rfl, by rw [off, Nat.pow_zero, Nat.div_one], x0, x1, y0, y1, HRA.out, hba, hza⟩
      case round =>
        clear x0 x1 y0 y1 HRA hba hza hBa
        obtain ⟨a, A, d, ha, rfl, rfl, x0, x1, y0, y1, hra, hba, hza⟩ := hrel
        have HRA := Lib.hid hra
        clear hra
        have hBa := (hba.cell (p := ⟨Bn, 0, none⟩) hltr).trans hB
        by_cases hla : a < n
        · gi_wp2
          gi_loopw [4, 7] (fun v i wq => ∃ (b : Nat) (A : Option Addr) (d : Nat), a + 1 ≤ b ∧ b ≤ n ∧ i = .int .i64 (b : Int) ∧ v = .int .i64 ((c / 2 ^ gpos n a b : Nat) : Int) ∧ wq.cell? ⟨b5, 0, none⟩ = some (.int .i64 (n : Int)) ∧ wq.cell? ⟨b5, 1, none⟩ = some (.slice A n d) ∧ wq.frozen? ⟨b5, 0, none⟩ = false ∧ wq.frozen? ⟨b5, 1, none⟩ = false ∧ Row wq wq.heap.size A (ints (casts (gameV n (curG c (gpos n a b))))) ∧ Below wo.heap.size wo wq ∧ b5 < wq.heap.size) (fun _ i _ => n - (intOf i).toNat)
          case atStart => exact ⟨a + 1, A, d, by omega, by omega, by go_num, by rw [code_first], x0, x1, y0, y1, by rw [show gpos n a (a + 1) = off n a by unfold gpos; omega]; exact HRA.out, hba, hza⟩
          case round =>
            clear x0 x1 y0 y1 HRA hba hza hBa
            obtain ⟨b, A, d, hab, hbn, rfl, rfl, x0, x1, y0, y1, hra, hba, hza⟩ := hrel
            have hBa := (hba.cell (p := ⟨Bn, 0, none⟩) hltr).trans hB
            by_cases hlb : b < n
            · have hcn := Lib.hid (code_next n a b c (by omega))
              have hgn := Lib.hid (show gpos n a (b + 1) = gpos n a b + 1 by unfold gpos; omega)
              have hcl := div_lt c (gpos n a b) (by omega)
              have T := game_bit c (gpos n a b) (by omega)
              cases hg : c.testBit (gpos n a b) with
              | true =>
                rw [hg] at T
                have hfl := flipped_any A d (gameV n (curG c (gpos n a b))) a b wr (gameV_ok n _ h1 (by omega)) hra (by rw [gameV_length]; omega) (by rw [gameV_length]; omega)
                rw [game_flip n c a b h1 (by omega) (by omega) hlb hg, ← hgn.out, gameV_length] at hfl
                have HF := Lib.hid hfl
                have hlen : (casts (gameV n (curG c (gpos n a (b + 1))))).length = n := by rw [casts_length, gameV_length]
                have HLEN := Lib.hid hlen
                clear hra hfl hg hlen
                generalize hzs : casts (gameV n (curG c (gpos n a (b + 1)))) = zs at *
                have HZ := Lib.hid hzs
                clear hzs
                generalize cd : c / 2 ^ gpos n a b = x at *
                obtain ⟨r, hr⟩ : ∃ r, r = x / 2 := ⟨_, rfl⟩
                have hdiv : (x : Int) / 2 = (r : Int) := by omega
                have HR := Lib.hid hr
                clear hr
                gi_wp2_with fail
                refine ⟨trivial, (callsIn_wide.2 HF.out).mono ?_⟩
                rintro e w4 ⟨A', d', rfl, ho, hb4⟩
                rw [HLEN.out]
                have x0' := (hb4.cell (p := ⟨b5, 0, none⟩) hza).trans x0
                have x1' := (hb4.cell (p := ⟨b5, 1, none⟩) hza).trans x1
                have y0' := (hb4.frozen (p := ⟨b5, 0, none⟩) hza).trans y0
                have y1' := (hb4.frozen (p := ⟨b5, 1, none⟩) hza).trans y1
                have hba' := below_trans hba hb4
                have hz4 := hb4.size
                clear x0 x1 y0 y1 hBa
                gi_wp2
                go_roundw
                case rel =>
                  refine ⟨b + 1, A', d', by omega, by omega, by go_num, by rw [← hcn.out, ← HR.out], ?_, ?_, ?_, ?_, ?_, (hba'.setCell (p := ⟨b5, 0, none⟩) (by simp; omega) _).setCell (p := ⟨b5, 1, none⟩) (by simp; omega) _, by simp; omega⟩
                  · go_simp
                  · go_simp
                  · go_simp
                  · go_simp
                  · rw [HZ.out]
                    refine Row.mono (Own.row ((ho.setCell (p := ⟨b5, 0, none⟩) (by left; show b5 < _; omega) _).setCell (p := ⟨b5, 1, none⟩) (by left; show b5 < _; omega) _)) ?_
                    simp
                case measure => simp [intOf]; omega
              | false =>
                rw [hg] at T
                have hsk := game_skip n c a b h1 (by omega) (by omega) hlb hg
                rw [← hgn.out] at hsk
                rw [← hsk] at hra
                have HRA := Lib.hid hra
                clear hra hsk hg
                generalize cd : c / 2 ^ gpos n a b = x at *
                obtain ⟨r, hr⟩ : ∃ r, r = x / 2 := ⟨_, rfl⟩
                have hdiv : (x : Int) / 2 = (r : Int) := by omega
                have HR := Lib.hid hr
                clear hr
                gi_wp2
                go_roundw
                case rel => exact ⟨b + 1, A, d, by omega, by omega, by go_num, by rw [← hcn.out, ← HR.out], x0, x1, y0, y1, HRA.out, hba, hza⟩
                case measure => simp [intOf]; omega
            · obtain rfl : b = n := by omega
              have hgn := Lib.hid (code_last b a c hla)
              have hge : gpos b a b = off b (a + 1) := by unfold gpos; rw [off]; omega
              rw [hge] at hra
              have HRA := Lib.hid hra
              clear hra hge
              gi_wp2
              go_roundw
              case rel => exact ⟨a + 1, A, d, by omega, by go_num, by rw [hgn.out], x0, x1, y0, y1, HRA.out, hba, hza⟩
              case measure => simp [intOf]; omega
        · obtain rfl : a = n := by omega
          have hrf := HRA.out
          rw [game_full a c h1 (by omega)] at hrf
          have hYc := HY.out c #[.agg #[.int .i64 (a : Int), .slice A a d]] wr (HJ.out c _ _ HJC.out hba) hlt ⟨A, d, rfl, hrf⟩
          obtain ⟨fn, tmps, assign, body, hy, hR⟩ := hYc
          have HRND := Lib.hid hR
          clear HRA hrf hR
          gi_wp2
          refine HRND.out.mono ?_
          rintro e w8 ⟨rfl, hJ8, hk8⟩
          have hB8 : w8.cell? ⟨Bn, 0, none⟩ = some (.int .i64 (a : Int)) := (World.cell?_of_block (w := wr) (a := ⟨Bn, 0, none⟩) hk8).trans hBa
          gi_wp2
          go_roundw
          case rel => exact ⟨c + 1, by omega, by go_num, hJ8, hB8⟩
          case measure => simp [intOf]; omega
    · obtain rfl : c = M := by omega
      gi_wp2
      go_end0
      exact ⟨⟨_, rfl⟩, hJc⟩
theorem allTours_any (n : Int) (w : World) : Calls Try.prog 34 #[.int .i64 n] w fun e w' => e = .returned (.func (.func 62) #[] #[.pointer (some ⟨w.heap.size, 0, none⟩)]) ∧ Below w.heap.size w w' ∧ w'.cell? ⟨w.heap.size, 0, none⟩ = some (.int .i64 n) := by
  go_enter Try.func34, Try.ntmps34
  go_wp2
  go_ret
  exact ⟨rfl, by go_grown, by go_simp⟩
/-- Where only the block l may have been turned, and it holds no cells: what cells hold abides. -/
theorem cell_turn {W X : World} {l : Nat} {o : Obj} (hX : W.grownBy X (some l)) (hl : W.heap[l]? = some o) (ho : o.isCells = false) {p : Addr} {v : Value} (h : W.cell? p = some v) : X.cell? p = some v := by
  obtain ⟨o', ho', hc⟩ := cells_of_cell h
  have hne : p.block ≠ l := fun e => by rw [e, hl] at ho'; cases ho'; rw [ho] at hc; cases hc
  exact (World.cell?_of_block (hX.block _ (Array.getElem?_eq_some_iff.1 ho').1 (fun e => hne (Option.some.inj e)))).trans h
theorem frozen_turn {W X : World} {l : Nat} {o : Obj} (hX : W.grownBy X (some l)) (hl : W.heap[l]? = some o) (ho : o.isCells = false) {p : Addr} {v : Value} (h : W.cell? p = some v) : X.frozen? p = W.frozen? p := by
  obtain ⟨o', ho', hc⟩ := cells_of_cell h
  have hne : p.block ≠ l := fun e => by rw [e, hl] at ho'; cases ho'; rw [ho] at hc; cases hc
  exact World.frozen?_of_block (hX.block _ (Array.getElem?_eq_some_iff.1 ho').1 (fun e => hne (Option.some.inj e)))
theorem row_turn {W X : World} {l B : Nat} {o : Obj} (hX : W.grownBy X (some l)) (hl : W.heap[l]? = some o) (ho : o.isCells = false) {A : Option Addr} {vs : List Value} (h : Row W B A vs) : Row X B A vs := by
  intro h0
  obtain ⟨b, off, e, hb, hc⟩ := h h0
  exact ⟨b, off, e, hb, fun i u hu => cell_turn hX hl ho (hc i u hu)⟩
theorem below_turn {w W X : World} {l : Nat} (hX : W.grownBy X (some l)) (h : Below w.heap.size w W) (hl : w.heap.size ≤ l) : Below w.heap.size w X :=
  h.grown hX h.size (fun k e => by cases e; exact hl)
/-- What stands between two rounds. -/
def kingsI (w : World) (n k : Nat) (c : Nat) (W : World) : Prop :=
  W.cell? ⟨w.heap.size + 1, 0, none⟩ = some (.int .i64 ((kc n k c : Nat) : Int)) ∧ W.frozen? ⟨w.heap.size + 1, 0, none⟩ = false ∧ W.cell? ⟨w.heap.size, 0, none⟩ = some (.int .i64 (k : Int)) ∧ Below w.heap.size w W
theorem kingsI_below (w : World) (n k c : Nat) (A B : World) (h : kingsI w n k c A) (hb : Below A.heap.size A B) : kingsI w n k c B := by
  obtain ⟨h1, h2, h3, h4⟩ := h
  exact ⟨(hb.cell (World.block_lt_of_cell? A _ h1)).trans h1, (hb.frozen (World.block_lt_of_cell? A _ h1)).trans h2, (hb.cell (World.block_lt_of_cell? A _ h3)).trans h3, below_trans h4 hb⟩
theorem kingsI_turn (w : World) (n k c : Nat) {W X : World} {l : Nat} {o : Obj} (hX : W.grownBy X (some l)) (hl : W.heap[l]? = some o) (ho : o.isCells = false) (hw : w.heap.size ≤ l) (h : kingsI w n k c W) : kingsI w n k c X := by
  obtain ⟨h1, h2, h3, h4⟩ := h
  exact ⟨cell_turn hX hl ho h1, (frozen_turn hX hl ho h1).trans h2, cell_turn hX hl ho h3, below_turn hX h4 hw⟩
attribute [local go_sem] Oper.semAt_some
theorem iCountKings_any (n k : Int) (w : World) (_ : (Lit.int .i64 n).wf = true) (_ : (Lit.int .i64 k).wf = true) :
    Calls Try.prog 7 #[.int .i64 n, .int .i64 k] w fun e w' => e = .returned (.int .i64 (rCountKings n k)) ∧ Below w.heap.size w w' := by
  refine (callsIn_wide (n := 4)).1 ?_
  refine callsIn_of_wp_marks Try.func7 rfl trivial ?_ rfl
  simp only [Try.ntmps7, List.size_toArray, List.length_cons, List.length_nil, Nat.reduceAdd, Nat.reduceSub, Array.replicate_succ, Array.replicate_zero, List.push_toArray, List.append_toArray, List.nil_append, List.cons_append]
  by_cases hn : 1 ≤ n ∧ n ≤ 5
  · have HW := Lib.hid (fun W' => within_yes n 1 5 W' (by omega) (by omega))
    by_cases hk : 0 ≤ k ∧ k ≤ n
    · have HW2 := Lib.hid (fun W' => within_yes k 0 n W' (by omega) (by omega))
      have HR : Hid (rCountKings n k = (kc n.toNat k.toNat (2 ^ off n.toNat n.toNat) : Nat)) := Lib.hid (by unfold rCountKings; rw [if_pos ⟨hn, hk⟩])
      obtain ⟨n, rfl⟩ := Int.eq_ofNat_of_zero_le (show 0 ≤ n by omega)
      obtain ⟨k, rfl⟩ := Int.eq_ofNat_of_zero_le (show 0 ≤ k by omega)
      rw [Int.toNat_natCast, Int.toNat_natCast] at HR
      have h1 : 1 ≤ n := by omega
      have h5 : n ≤ 5 := by omega
      have hkn : k ≤ n := by omega
      clear hn hk
      gi_wp2_with fail
      refine ⟨trivial, (callsIn_wide.2 (HW.out _)).mono ?_⟩
      rintro e w2 ⟨rfl, rfl⟩
      gi_wp2_with fail
      refine ⟨trivial, (callsIn_wide.2 (HW2.out _)).mono ?_⟩
      rintro e w2 ⟨rfl, rfl⟩
      gi_wp2_with fail
      refine ⟨trivial, (callsIn_wide.2 (allTours_any (n : Int) _)).mono ?_⟩
      rintro e w2 ⟨rfl, hb2, hB2⟩
      gi_wp2
      obtain ⟨wr, hwr⟩ : ∃ wr, wr = (w.alloc (.cells #[.int .i64 (k : Int)] 3)).alloc (.cells #[.int .i64 0] 3) := ⟨_, rfl⟩
      rw [← hwr] at hb2 hB2
      have hz : wr.heap.size = w.heap.size + 1 + 1 := by rw [hwr]; simp
      rw [hz] at hB2
      have hI0 : kingsI w n k 0 w2 := kingsI_below w n k 0 _ _ ⟨by rw [hwr]; go_simp; rfl, by rw [hwr]; go_simp, by rw [hwr]; go_simp, by rw [hwr]; go_grown⟩ hb2
      have hltB := World.block_lt_of_cell? w2 _ hB2
      have HIB := Lib.hid hI0
      clear hwr hI0
      refine wpIn_hands rfl (by omega) (gf := 62) (lb := #[.pointer (some ⟨w.heap.size + 1 + 1, 0, none⟩)]) rfl trivial (enters_of Try.func62 (by kernel_rfl) rfl)
        (allTours_hands n h1 h5 (w.heap.size + 1 + 1) 3 (by omega) w2 hB2) (Below.refl _ _) ?_ (fun h k => k.trans h) ?_ (kingsI w n k) (kingsI_below w n k) ?_ HIB.out ?_ ?_
      · rintro c vs W ⟨A, d, rfl, _⟩; rfl
      · intro W l o o' hl _ _
        have hltB' : w.heap.size + 1 + 1 < w2.heap.size := hltB
        exact World.putObj_heap_other (by omega)
      · intro c W l o o' hl hlo ho hI
        exact kingsI_turn w n k c (grownBy_putObj' _ _ _) hlo ho (by have := hb2.size; omega) hI
      · rintro l c vs W o hl hlo ho hI ⟨A, d, rfl, hrow⟩ hc
        have HROW := Lib.hid hrow
        have HI := Lib.hid hI
        clear hrow hI HIB
        gi_wp2
        refine ⟨KeepsOthers.alloc _ _, ?_, ?_⟩
        · have hltB' : w.heap.size + 1 + 1 < w2.heap.size := hltB
          exact Below.heap_alloc W _ _ (by have := (Array.getElem?_eq_some_iff.1 hlo).1; omega)
        intro X hX hXs
        have hltl := (Array.getElem?_eq_some_iff.1 hlo).1
        have hlo1 := (Below.heap_alloc W (.cells #[.int .i64 (n : Int), .slice A n d] 26) l hltl).trans hlo
        have x0 : X.cell? ⟨W.heap.size, 0, none⟩ = some (.int .i64 (n : Int)) := cell_turn hX hlo1 ho (by go_simp)
        have x1 : X.cell? ⟨W.heap.size, 1, none⟩ = some (.slice A n d) := cell_turn hX hlo1 ho (by go_simp)
        have HIX := Lib.hid (kingsI_turn w n k c hX hlo1 ho (by have := hb2.size; omega) (kingsI_below w n k c _ _ HI.out ((Below.refl _ _).alloc (Nat.le_refl _) _)))
        have HRX := Lib.hid (row_turn hX hlo1 ho (HROW.out.alloc (Nat.le_refl _) _))
        have hkx := HIX.out.2.2.1
        have HV := Lib.hid (gameV_ok n (fun j => c.testBit j) h1 (by omega))
        have HVL := Lib.hid (gameV_length n (fun j => c.testBit j))
        clear HROW HI hlo1 hX
        have HST := Lib.hid (show kc n k (c + 1) = kc n k c + if kingsIs n k c then 1 else 0 from rfl)
        have HKS := Lib.hid (show kingsIs n k c = (pc 8 (kingsN (gameV n fun j => c.testBit j)) == k) from rfl)
        have hkl := kings_lt _ HV.out
        generalize gameV n (fun j => c.testBit j) = V at *
        have HKC := Lib.hid (fun W' (hr : Row W' W'.heap.size A (ints (casts V))) => (by have := kings_any A d V W' HV.out hr; rwa [HVL.out] at this :
          Calls Try.prog 36 #[.agg #[.int .i64 (n : Int), .slice A n d]] W' fun e w' => e = .returned (.int .i64 (kingsN V : Nat)) ∧ Below W'.heap.size W' w'))
        have HOC := Lib.hid (fun W' => (by have := onesCount_any ((kingsN V : Nat) : Int) W' (by omega) (by omega); rwa [Int.toNat_natCast] at this :
          Calls Try.prog 35 #[.int .u64 ((kingsN V : Nat) : Int)] W' fun e w' => e = .returned (.int .i64 (pc 8 (kingsN V) : Nat)) ∧ W' = w'))
        have hwu : IntKind.u64.wrap ((kingsN V : Nat) : Int) = ((kingsN V : Nat) : Int) := by rw [IntKind.wrap_u64]; omega
        generalize kingsN V = kv at *
        generalize pc 8 kv = pk at *
        obtain ⟨v, hv⟩ : ∃ v, kingsIs n k c = v := ⟨_, rfl⟩
        have HY : Hid (((pk : Int) == (k : Int)) = v) := Lib.hid (by
          rw [← hv, HKS.out, Bool.eq_iff_iff, beq_iff_eq, beq_iff_eq]
          omega)
        have HST : Hid (kc n k (c + 1) = kc n k c + if v then 1 else 0) := Lib.hid (by rw [HST.out, hv])
        have hcl := kc_le n k c
        have hM1 := (pow10 (off n n) (by obtain ⟨p, q, _, _, h3, h4, _⟩ := pairs5 n h1 h5; omega)).1
        have hzB : w.heap.size + 1 + 1 < X.heap.size := by have h9 : w.heap.size + 1 + 1 < w2.heap.size := hltB; omega
        clear hv HKS
        gi_wp2
        refine wpIn_region_any (by kernel_rfl) ?_
        change wpAnyIn _ _ _ _ _ _ _ _ _ (World.drew _)
        refine wpAnyIn_ready (rs := [0, 4]) (by kernel_rfl) (by simp) ?_
        refine AllReadyIn.cons rfl (fun K hK => ?_) ?_
        · go_simp
          refine hK _ _ ?_
          clear hK K
          try simp only [Act.put, List.setIfInBounds_toArray, List.set_cons_zero, List.set_cons_succ]
          refine wpAnyIn_ready (rs := [1, 4]) (by kernel_rfl) (by simp) ?_
          refine AllReadyIn.cons rfl (fun K hK => ?_) ?_
          · go_simp
            refine ⟨trivial, (CallsIn.inRound l (callsIn_wide.2 (HKC.out _ (HRX.out.mono (by show W.heap.size ≤ X.heap.size; omega)).drew))).mono ?_⟩
            rintro e w5 ⟨rfl, hb5⟩; have hk5 := (hb5.cell (World.block_lt_of_cell? _ _ hkx)).trans hkx
            simp only []
            refine hK _ _ ?_
            clear hK K
            try simp only [Act.put, List.setIfInBounds_toArray, List.set_cons_zero, List.set_cons_succ]
            refine wpAnyIn_ready (rs := [2, 4]) (by kernel_rfl) (by simp) ?_
            refine AllReadyIn.cons rfl (fun K hK => ?_) ?_
            · go_simp
              refine hK _ _ ?_
              clear hK K
              try simp only [Act.put, List.setIfInBounds_toArray, List.set_cons_zero, List.set_cons_succ]
              refine wpAnyIn_ready (rs := [3, 4]) (by kernel_rfl) (by simp) ?_
              refine AllReadyIn.cons rfl (fun K hK => ?_) ?_
              · go_simp
                refine ⟨trivial, (CallsIn.inRound l (callsIn_wide.2 (HOC.out _))).mono ?_⟩
                rintro e w6 ⟨rfl, rfl⟩
                simp only []
                refine hK _ _ ?_
                clear hK K
                try simp only [Act.put, List.setIfInBounds_toArray, List.set_cons_zero, List.set_cons_succ]
                refine wpAnyIn_ready (rs := [4]) (by kernel_rfl) (by simp) ?_
                refine AllReadyIn.cons rfl (fun K hK => ?_) ?_
                · go_simp
                  refine hK _ _ ?_
                  clear hK K
                  try simp only [Act.put, List.setIfInBounds_toArray, List.set_cons_zero, List.set_cons_succ]
                  refine wpAnyIn_ready (rs := [5]) (by kernel_rfl) (by simp) ?_
                  refine AllReadyIn.cons rfl (fun K hK => ?_) ?_
                  · go_simp
                    refine hK _ _ ?_
                    clear hK K
                    try simp only [Act.put, List.setIfInBounds_toArray, List.set_cons_zero, List.set_cons_succ]
                    refine wpAnyIn_done (by kernel_rfl) ?_ _
                    have hbx := below_undrew hb5
                    obtain ⟨i1, i2, i3, i4⟩ := kingsI_below w n k c _ _ HIX.out hbx
                    clear hk5 hkx hb5 x0 x1
                    simp only [Exit.then]
                    go_at_K
                    cases v with
                    | true =>
                      have hy := HY.out
                      gi_wp2
                      refine ⟨(keepsOthers_below hbx).trans (KeepsOthers.setCell _ _ _), ?_, ?_, ?_, ?_, ?_⟩
                      · exact (Below.heap_setCell _ _ _ _ (by show w.heap.size + 1 + 1 ≠ w.heap.size + 1; omega)).trans (hbx.block _ (by omega))
                      · rw [HST.out]; go_simp
                      · go_simp
                      · go_simp
                      · exact i4.setCell (by show w.heap.size ≤ w.heap.size + 1; omega) _
                    | false =>
                      have hy := HY.out
                      gi_wp2
                      refine ⟨keepsOthers_below hbx, hbx.block _ (by omega), ?_, i2, i3, i4⟩
                      rw [HST.out]; exact i1
                  exact AllReadyIn.nil
                exact AllReadyIn.nil
              refine AllReadyIn.cons rfl (fun K hK => ?_) ?_
              · go_simp
                refine hK _ _ ?_
                clear hK K
                try simp only [Act.put, List.setIfInBounds_toArray, List.set_cons_zero, List.set_cons_succ]
                refine wpAnyIn_ready (rs := [3]) (by kernel_rfl) (by simp) ?_
                refine AllReadyIn.cons rfl (fun K hK => ?_) ?_
                · go_simp
                  refine ⟨trivial, (CallsIn.inRound l (callsIn_wide.2 (HOC.out _))).mono ?_⟩
                  rintro e w6 ⟨rfl, rfl⟩
                  simp only []
                  refine hK _ _ ?_
                  clear hK K
                  try simp only [Act.put, List.setIfInBounds_toArray, List.set_cons_zero, List.set_cons_succ]
                  refine wpAnyIn_ready (rs := [5]) (by kernel_rfl) (by simp) ?_
                  refine AllReadyIn.cons rfl (fun K hK => ?_) ?_
                  · go_simp
                    refine hK _ _ ?_
                    clear hK K
                    try simp only [Act.put, List.setIfInBounds_toArray, List.set_cons_zero, List.set_cons_succ]
                    refine wpAnyIn_done (by kernel_rfl) ?_ _
                    have hbx := below_undrew hb5
                    obtain ⟨i1, i2, i3, i4⟩ := kingsI_below w n k c _ _ HIX.out hbx
                    clear hk5 hkx hb5 x0 x1
                    simp only [Exit.then]
                    go_at_K
                    cases v with
                    | true =>
                      have hy := HY.out
                      gi_wp2
                      refine ⟨(keepsOthers_below hbx).trans (KeepsOthers.setCell _ _ _), ?_, ?_, ?_, ?_, ?_⟩
                      · exact (Below.heap_setCell _ _ _ _ (by show w.heap.size + 1 + 1 ≠ w.heap.size + 1; omega)).trans (hbx.block _ (by omega))
                      · rw [HST.out]; go_simp
                      · go_simp
                      · go_simp
                      · exact i4.setCell (by show w.heap.size ≤ w.heap.size + 1; omega) _
                    | false =>
                      have hy := HY.out
                      gi_wp2
                      refine ⟨keepsOthers_below hbx, hbx.block _ (by omega), ?_, i2, i3, i4⟩
                      rw [HST.out]; exact i1
                  exact AllReadyIn.nil
                exact AllReadyIn.nil
              exact AllReadyIn.nil
            refine AllReadyIn.cons rfl (fun K hK => ?_) ?_
            · go_simp
              refine hK _ _ ?_
              clear hK K
              try simp only [Act.put, List.setIfInBounds_toArray, List.set_cons_zero, List.set_cons_succ]
              refine wpAnyIn_ready (rs := [2]) (by kernel_rfl) (by simp) ?_
              refine AllReadyIn.cons rfl (fun K hK => ?_) ?_
              · go_simp
                refine hK _ _ ?_
                clear hK K
                try simp only [Act.put, List.setIfInBounds_toArray, List.set_cons_zero, List.set_cons_succ]
                refine wpAnyIn_ready (rs := [3]) (by kernel_rfl) (by simp) ?_
                refine AllReadyIn.cons rfl (fun K hK => ?_) ?_
                · go_simp
                  refine ⟨trivial, (CallsIn.inRound l (callsIn_wide.2 (HOC.out _))).mono ?_⟩
                  rintro e w6 ⟨rfl, rfl⟩
                  simp only []
                  refine hK _ _ ?_
                  clear hK K
                  try simp only [Act.put, List.setIfInBounds_toArray, List.set_cons_zero, List.set_cons_succ]
                  refine wpAnyIn_ready (rs := [5]) (by kernel_rfl) (by simp) ?_
                  refine AllReadyIn.cons rfl (fun K hK => ?_) ?_
                  · go_simp
                    refine hK _ _ ?_
                    clear hK K
                    try simp only [Act.put, List.setIfInBounds_toArray, List.set_cons_zero, List.set_cons_succ]
                    refine wpAnyIn_done (by kernel_rfl) ?_ _
                    have hbx := below_undrew hb5
                    obtain ⟨i1, i2, i3, i4⟩ := kingsI_below w n k c _ _ HIX.out hbx
                    clear hk5 hkx hb5 x0 x1
                    simp only [Exit.then]
                    go_at_K
                    cases v with
                    | true =>
                      have hy := HY.out
                      gi_wp2
                      refine ⟨(keepsOthers_below hbx).trans (KeepsOthers.setCell _ _ _), ?_, ?_, ?_, ?_, ?_⟩
                      · exact (Below.heap_setCell _ _ _ _ (by show w.heap.size + 1 + 1 ≠ w.heap.size + 1; omega)).trans (hbx.block _ (by omega))
                      · rw [HST.out]; go_simp
                      · go_simp
                      · go_simp
                      · exact i4.setCell (by show w.heap.size ≤ w.heap.size + 1; omega) _
                    | false =>
                      have hy := HY.out
                      gi_wp2
                      refine ⟨keepsOthers_below hbx, hbx.block _ (by omega), ?_, i2, i3, i4⟩
                      rw [HST.out]; exact i1
                  exact AllReadyIn.nil
                exact AllReadyIn.nil
              exact AllReadyIn.nil
            exact AllReadyIn.nil
          refine AllReadyIn.cons rfl (fun K hK => ?_) ?_
          · go_simp
            refine hK _ _ ?_
            clear hK K
            try simp only [Act.put, List.setIfInBounds_toArray, List.set_cons_zero, List.set_cons_succ]
            refine wpAnyIn_ready (rs := [1]) (by kernel_rfl) (by simp) ?_
            refine AllReadyIn.cons rfl (fun K hK => ?_) ?_
            · go_simp
              refine ⟨trivial, (CallsIn.inRound l (callsIn_wide.2 (HKC.out _ (HRX.out.mono (by show W.heap.size ≤ X.heap.size; omega)).drew))).mono ?_⟩
              rintro e w5 ⟨rfl, hb5⟩; have hk5 := (hb5.cell (World.block_lt_of_cell? _ _ hkx)).trans hkx
              simp only []
              refine hK _ _ ?_
              clear hK K
              try simp only [Act.put, List.setIfInBounds_toArray, List.set_cons_zero, List.set_cons_succ]
              refine wpAnyIn_ready (rs := [2]) (by kernel_rfl) (by simp) ?_
              refine AllReadyIn.cons rfl (fun K hK => ?_) ?_
              · go_simp
                refine hK _ _ ?_
                clear hK K
                try simp only [Act.put, List.setIfInBounds_toArray, List.set_cons_zero, List.set_cons_succ]
                refine wpAnyIn_ready (rs := [3]) (by kernel_rfl) (by simp) ?_
                refine AllReadyIn.cons rfl (fun K hK => ?_) ?_
                · go_simp
                  refine ⟨trivial, (CallsIn.inRound l (callsIn_wide.2 (HOC.out _))).mono ?_⟩
                  rintro e w6 ⟨rfl, rfl⟩
                  simp only []
                  refine hK _ _ ?_
                  clear hK K
                  try simp only [Act.put, List.setIfInBounds_toArray, List.set_cons_zero, List.set_cons_succ]
                  refine wpAnyIn_ready (rs := [5]) (by kernel_rfl) (by simp) ?_
                  refine AllReadyIn.cons rfl (fun K hK => ?_) ?_
                  · go_simp
                    refine hK _ _ ?_
                    clear hK K
                    try simp only [Act.put, List.setIfInBounds_toArray, List.set_cons_zero, List.set_cons_succ]
                    refine wpAnyIn_done (by kernel_rfl) ?_ _
                    have hbx := below_undrew hb5
                    obtain ⟨i1, i2, i3, i4⟩ := kingsI_below w n k c _ _ HIX.out hbx
                    clear hk5 hkx hb5 x0 x1
                    simp only [Exit.then]
                    go_at_K
                    cases v with
                    | true =>
                      have hy := HY.out
                      gi_wp2
                      refine ⟨(keepsOthers_below hbx).trans (KeepsOthers.setCell _ _ _), ?_, ?_, ?_, ?_, ?_⟩
                      · exact (Below.heap_setCell _ _ _ _ (by show w.heap.size + 1 + 1 ≠ w.heap.size + 1; omega)).trans (hbx.block _ (by omega))
                      · rw [HST.out]; go_simp
                      · go_simp
                      · go_simp
                      · exact i4.setCell (by show w.heap.size ≤ w.heap.size + 1; omega) _
                    | false =>
                      have hy := HY.out
                      gi_wp2
                      refine ⟨keepsOthers_below hbx, hbx.block _ (by omega), ?_, i2, i3, i4⟩
                      rw [HST.out]; exact i1
                  exact AllReadyIn.nil
                exact AllReadyIn.nil
              exact AllReadyIn.nil
            exact AllReadyIn.nil
          exact AllReadyIn.nil
        refine AllReadyIn.cons rfl (fun K hK => ?_) ?_
        · go_simp
          refine hK _ _ ?_
          clear hK K
          try simp only [Act.put, List.setIfInBounds_toArray, List.set_cons_zero, List.set_cons_succ]
          refine wpAnyIn_ready (rs := [0]) (by kernel_rfl) (by simp) ?_
          refine AllReadyIn.cons rfl (fun K hK => ?_) ?_
          · go_simp
            refine hK _ _ ?_
            clear hK K
            try simp only [Act.put, List.setIfInBounds_toArray, List.set_cons_zero, List.set_cons_succ]
            refine wpAnyIn_ready (rs := [1]) (by kernel_rfl) (by simp) ?_
            refine AllReadyIn.cons rfl (fun K hK => ?_) ?_
            · go_simp
              refine ⟨trivial, (CallsIn.inRound l (callsIn_wide.2 (HKC.out _ (HRX.out.mono (by show W.heap.size ≤ X.heap.size; omega)).drew))).mono ?_⟩
              rintro e w5 ⟨rfl, hb5⟩; have hk5 := (hb5.cell (World.block_lt_of_cell? _ _ hkx)).trans hkx
              simp only []
              refine hK _ _ ?_
              clear hK K
              try simp only [Act.put, List.setIfInBounds_toArray, List.set_cons_zero, List.set_cons_succ]
              refine wpAnyIn_ready (rs := [2]) (by kernel_rfl) (by simp) ?_
              refine AllReadyIn.cons rfl (fun K hK => ?_) ?_
              · go_simp
                refine hK _ _ ?_
                clear hK K
                try simp only [Act.put, List.setIfInBounds_toArray, List.set_cons_zero, List.set_cons_succ]
                refine wpAnyIn_ready (rs := [3]) (by kernel_rfl) (by simp) ?_
                refine AllReadyIn.cons rfl (fun K hK => ?_) ?_
                · go_simp
                  refine ⟨trivial, (CallsIn.inRound l (callsIn_wide.2 (HOC.out _))).mono ?_⟩
                  rintro e w6 ⟨rfl, rfl⟩
                  simp only []
                  refine hK _ _ ?_
                  clear hK K
                  try simp only [Act.put, List.setIfInBounds_toArray, List.set_cons_zero, List.set_cons_succ]
                  refine wpAnyIn_ready (rs := [5]) (by kernel_rfl) (by simp) ?_
                  refine AllReadyIn.cons rfl (fun K hK => ?_) ?_
                  · go_simp
                    refine hK _ _ ?_
                    clear hK K
                    try simp only [Act.put, List.setIfInBounds_toArray, List.set_cons_zero, List.set_cons_succ]
                    refine wpAnyIn_done (by kernel_rfl) ?_ _
                    have hbx := below_undrew hb5
                    obtain ⟨i1, i2, i3, i4⟩ := kingsI_below w n k c _ _ HIX.out hbx
                    clear hk5 hkx hb5 x0 x1
                    simp only [Exit.then]
                    go_at_K
                    cases v with
                    | true =>
                      have hy := HY.out
                      gi_wp2
                      refine ⟨(keepsOthers_below hbx).trans (KeepsOthers.setCell _ _ _), ?_, ?_, ?_, ?_, ?_⟩
                      · exact (Below.heap_setCell _ _ _ _ (by show w.heap.size + 1 + 1 ≠ w.heap.size + 1; omega)).trans (hbx.block _ (by omega))
                      · rw [HST.out]; go_simp
                      · go_simp
                      · go_simp
                      · exact i4.setCell (by show w.heap.size ≤ w.heap.size + 1; omega) _
                    | false =>
                      have hy := HY.out
                      gi_wp2
                      refine ⟨keepsOthers_below hbx, hbx.block _ (by omega), ?_, i2, i3, i4⟩
                      rw [HST.out]; exact i1
                  exact AllReadyIn.nil
                exact AllReadyIn.nil
              exact AllReadyIn.nil
            exact AllReadyIn.nil
          exact AllReadyIn.nil
        exact AllReadyIn.nil
      · intro D W hD hI hdef
        obtain ⟨i1, i2, i3, i4⟩ := hI
        gi_wp2
        refine ⟨by simp, .inl ⟨_, _, rfl, run_takeDeferred hdef, ?_⟩⟩
        refine ⟨_, results_tmp rfl _ _ _, ?_, ?_⟩
        · exact ret_int HR.out.symm
        · exact i4.grown (grownBy_putObj' _ _ _) i4.size (fun k e => by cases e; have := hb2.size; omega)
    · have HR : Hid (rCountKings n k = -1) := Lib.hid (by unfold rCountKings; rw [if_neg (fun h => hk h.2)])
      have HW2 := Lib.hid (fun W' => within_no k 0 n W' (by omega))
      clear hn hk
      gi_wp2_with fail
      refine ⟨trivial, (callsIn_wide.2 (HW.out _)).mono ?_⟩
      rintro e w2 ⟨rfl, rfl⟩
      gi_wp2_with fail
      refine ⟨trivial, (callsIn_wide.2 (HW2.out _)).mono ?_⟩
      rintro e w2 ⟨rfl, rfl⟩
      gi_wp2
      refine ⟨_, results_tmp rfl _ _ _, ?_, ?_⟩
      · exact ret_int HR.out.symm
      · go_grown
  · have HR : Hid (rCountKings n k = -1) := Lib.hid (by unfold rCountKings; rw [if_neg (fun h => hn h.1)])
    have HW := Lib.hid (fun W' => within_no n 1 5 W' (by omega))
    clear hn
    gi_wp2_with fail
    refine ⟨trivial, (callsIn_wide.2 (HW.out _)).mono ?_⟩
    rintro e w2 ⟨rfl, rfl⟩
    gi_wp2
    refine ⟨trivial, ?_⟩
    gi_wp2
    refine ⟨_, results_tmp rfl _ _ _, ?_, ?_⟩
    · exact ret_int HR.out.symm
    · go_grown
end Go.Proofs.Ytaocjjocncoahaa
