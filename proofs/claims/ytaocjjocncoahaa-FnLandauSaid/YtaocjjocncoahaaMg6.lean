/- parts, StrongParts, walked. isStrong, l05Strong, IsStrong, StrongParts, IsTransitive, walked. -/
import Derived.Test.YtaocjjocncoahaaByScore
import Derived.Test.YtaocjjocncoahaaMg5
namespace Go.Proofs.Ytaocjjocncoahaa
open Go.RowKit

theorem bit_test0 (x b : Nat) (h : x < 9223372036854775808) : (bits .and .i64 ((x : Int) / 2 ^ b) 1 == 0) = !x.testBit b := by
  rw [shr_nat, low_val _ _ h]
  cases x.testBit b <;> rfl
theorem Row.nat0 {w : World} {B g : Nat} {W : List Nat} (h : Row w B (some ⟨g, 0, none⟩) (ints (casts W))) {k : Nat} (hk : k < W.length) : g < B ∧ w.cell? ⟨g, k, none⟩ = some (.int .i64 (W[k] : Nat)) := by
  obtain ⟨g', o', e, hb, hc⟩ := h.nat hk
  simp only [Option.some.injEq, Addr.mk.injEq, and_true] at e
  obtain ⟨rfl, rfl⟩ := e
  rw [Nat.zero_add] at hc
  exact ⟨hb, hc⟩
theorem slice_len' {A : Option Addr} {a b c : Nat} (h : a = b) : Value.slice A a c = .slice A b c := by rw [h]
theorem spL_le (W : List Nat) (hT : IsT W) : (spL W (2 ^ W.length - 1)).length ≤ 8 := by
  have hp := Nat.two_pow_pos W.length
  have h := (parts_len hT _ (2 ^ W.length - 1) (Nat.le_refl _) (cl_all hT) (by omega)).1
  have := pc_le 8 (2 ^ W.length - 1)
  omega
theorem pt_next {w1 w' wq : World} {g g2 a : Nat} {v0 v1 x0 : Value} (h : Below w1.heap.size w1 w' ∧ w'.cell? ⟨g, 0, none⟩ = some v0 ∧ w'.cell? ⟨g, 1, none⟩ = some v1 ∧ w'.cell? ⟨g2, a, none⟩ = some x0) (hq : Below w'.heap.size w' wq) :
    Below w1.heap.size w1 wq ∧ wq.cell? ⟨g, 0, none⟩ = some v0 ∧ wq.cell? ⟨g, 1, none⟩ = some v1 ∧ wq.cell? ⟨g2, a, none⟩ = some x0 := by
  obtain ⟨h0, h1, h2, h3⟩ := h
  have l1 := World.block_lt_of_cell? _ _ h1
  have l3 := World.block_lt_of_cell? _ _ h3
  exact ⟨below_trans h0 hq, (hq.cell (p := ⟨g, 0, none⟩) l1).trans h1, (hq.cell (p := ⟨g, 1, none⟩) l1).trans h2, (hq.cell (p := ⟨g2, a, none⟩) l3).trans h3⟩
set_option maxHeartbeats 800000 in
theorem parts_any (A : Option Addr) (c : Nat) (W : List Nat) (w : World) (hT : IsT W) (h : Row w w.heap.size A (ints (casts W))) :
    Calls Try.prog 58 #[.agg #[.int .i64 (W.length : Int), .slice A W.length c]] w (NewInts w 3 (casts (spL W (2 ^ W.length - 1)))) := by
  have g1 := hT.h1
  have g8 := hT.h8
  have h256 := pow_le8 W.length g8
  go_enter Try.func58, Try.ntmps58
  go_wp2_with fail
  refine (byScore_any A c W _ hT (h.rowAt (by go_grown) (Nat.le_refl _))).mono ?_
  rintro e w1 ⟨os, go, d, rfl, hbs, ho, hb⟩
  obtain ⟨k0, k1, hbw, hsz⟩ := box1 hb
  have h := h.rowAt hbw (Nat.le_refl _)
  have hOS : Row w1 w1.heap.size (some ⟨go, 0, none⟩) (ints (casts os)) := ho.row
  have HBS := Lib.hid hbs
  have HOL := Lib.hid hbs.length
  clear ho hb hbs
  have hw9 : (W.length : Int) - 1 = ((W.length : Nat) : Int) - 1 := rfl
  clear hw9
  go_wp2
  go_loopw [3, 4, 6] (fun v kn i wr => ∃ (k q K : Nat) (L : List Nat) (B : Option Addr) (e : Nat), k + q = W.length ∧ i = .int .i64 ((q : Int) - 1) ∧ kn = .int .i64 (K : Int) ∧ v = .slice B L.length e ∧ Hid (PI W os k L K) ∧ L.length ≤ k ∧ Own wr w1.heap.size wr.heap.size 3 B e (ints (casts L)) ∧ Below w1.heap.size w1 wr) (fun _ _ i _ => (intOf i + 1).toNat)
  case atStart => exact ⟨0, W.length, 0, [], none, 0, by omega, rfl, rfl, rfl, Lib.hid (PI.start W os), Nat.zero_le _, Own.nil _ _ _ _, Below.refl _ _⟩
  case round =>
    obtain ⟨k, q, K, L, B, e, hkq, rfl, rfl, rfl, HPI, hLk, ho, hb⟩ := hrel
    obtain ⟨c0, c1⟩ := held_at k0 k1 hb
    have HO := Lib.hid ho
    clear ho
    by_cases hq : 0 < q
    · obtain ⟨p, rfl⟩ : ∃ p, q = p + 1 := ⟨q - 1, by omega⟩
      have hpn : p < W.length := by omega
      have hkn : k < W.length := by omega
      have hpe : W.length - (k + 1) = p := by omega
      have hpo : p < os.length := by have := HOL.out; omega
      have HA := Lib.hid (HBS.out.lt hpn)
      have HHit := Lib.hid (fun hb => HPI.out.hit hkn hb)
      have HMiss := Lib.hid (fun hb => HPI.out.miss hT HBS.out hkn hb)
      rw [hpe] at HHit HMiss
      have hKl := HPI.out.lt
      have HR0 := Lib.hid (hOS.rowAt hb (Nat.le_refl _))
      obtain ⟨hgo, x0⟩ := HR0.out.nat0 hpo
      rw [getD_lt _ _ _ hpo] at HA HHit HMiss
      have ha8 : os[p] < 8 := by have := HA.out; omega
      have HC := Lib.hid (fun W' hr => reach_any A c W os[p] W' hT hr HA.out)
      have hrl : rc W os[p] < 256 := by have := rc_lt hT HA.out; omega
      have E1 := andNot_nat (rc W os[p]) K hrl (by omega)
      have E2 := or_nat K (rc W os[p]) (by omega) (by omega)
      have HBT := Lib.hid (bit_test0 K os[p] (by omega))
      have e0 : (0 : Int) ≤ (K : Int) / 2 ^ os[p] := by rw [shr_nat]; exact Int.natCast_nonneg _
      have hzl := ofB_lt 8 (fun i => (rc W os[p]).testBit i && !K.testBit i)
      clear hpe
      generalize os[p] = a at *
      generalize rc W a = r at *
      generalize ofB 8 (fun i => r.testBit i && !K.testBit i) = z at *
      generalize hor : K ||| r = y at *
      have HYE := Lib.hid hor
      clear hor
      rw [show ((p + 1 : Nat) : Int) - 1 = (p : Int) by omega]
      have b1 : (0 : Int) ≤ (p : Int) := by omega
      have b2 : (p : Int) < (W.length : Int) := by omega
      have hv : Below wr.heap.size wr wr := Below.refl _ _
      go_wp2
      go_region_held3 (fun w' => Below wr.heap.size wr w' ∧ w'.cell? ⟨w.heap.size, 0, none⟩ = some (.int .i64 (W.length : Int)) ∧ w'.cell? ⟨w.heap.size, 1, none⟩ = some (.slice A W.length c) ∧ w'.cell? ⟨go, p, none⟩ = some (.int .i64 (a : Int)))
        (first | exact ⟨hv, c0, c1, x0⟩ | exact ⟨hv.drew, c0, c1, x0⟩)
        ((go_at_call 85; refine (HC.out _ (h.rowAt (below_trans hb (by first | exact hv | exact hv.drew)) (Nat.le_refl _))).mono ?_; rintro e wv ⟨rfl, hbv⟩; obtain ⟨hv, c0, c1, x0⟩ : Below wr.heap.size wr wv ∧ wv.cell? ⟨w.heap.size, 0, none⟩ = some (.int .i64 (W.length : Int)) ∧ wv.cell? ⟨w.heap.size, 1, none⟩ = some (.slice A W.length c) ∧ wv.cell? ⟨go, p, none⟩ = some (.int .i64 (a : Int)) := (by first | exact pt_next ⟨hv, c0, c1, x0⟩ hbv | exact pt_next ⟨hv.drew, c0, c1, x0⟩ hbv)))
      have hbv2 := below_trans hb hv
      have HO2 := Lib.hid ((HO.out.below hv (Nat.le_refl _)).mono (Nat.le_refl _) hv.size)
      have HRR := Lib.hid (hv.size)
      clear hv hbv c0 c1
      cases hk9 : K.testBit a with
      | true =>
        have HN := Lib.hid (HHit.out hk9)
        have et := HBT.out
        rw [hk9] at et
        clear hk9 HHit HMiss
        go_wp2
        go_roundw
        case rel => exact ⟨k + 1, p, K, L, B, e, by omega, by go_num, rfl, rfl, HN, by omega, HO2.out, hbv2⟩
        case measure => simp [intOf]
      | false =>
        have HN := Lib.hid (HMiss.out hk9)
        have et := HBT.out
        rw [hk9] at et
        clear hk9 HHit HMiss
        go_wp2_with (at_builtin; refine wpList_push rfl (.tmp 31) (.tmp 35) rfl w1.heap.size wv.heap.size B e L.length (casts L) (z : Int) wv.heap.size rfl rfl ?c1 ?c2 ?c3 (by omega) ?c4 ?_)
        case c1 => rw [casts_length]
        case c2 => exact HO2.out.alloc (Nat.le_refl _) _
        case c3 => go_simp
        case c4 => have := hbv2.size; simp; omega
        intro A2 c2 w4 ho4 hg4
        have HO4 := Lib.hid ho4
        have hb4 := below_only (hbv2.alloc hbv2.size (.cells #[.int .i64 (z : Int)] 3)) hg4 (Nat.le_refl _) (by have := hbv2.size; simp; omega)
        clear ho4 hg4
        go_wp2
        go_roundw
        case rel => exact ⟨k + 1, p, y, L ++ [z], A2, c2, by omega, by go_num, rfl, slice_len' (by simp), HN, by simp; omega, by rw [casts_append]; exact HO4.out, hb4⟩
        case measure => simp [intOf]
    · obtain rfl : q = 0 := by omega
      obtain rfl : k = W.length := by omega
      have HE := Lib.hid (HPI.out.end_ hT HBS.out)
      have hl1 : 1 ≤ L.length := by
        have h1 := congrArg List.length HE.out
        rw [List.length_reverse] at h1
        have hp := Nat.two_pow_pos W.length
        have h2 : 2 ^ 1 ≤ 2 ^ W.length := Nat.pow_le_pow_right (by omega) g1
        rw [spL_step hT (cl_all hT) (by omega) (by omega), List.length_cons] at h1
        omega
      obtain ⟨gB, rfl, -⟩ := HO.out.int (k := 0) (by rw [casts_length]; omega)
      have HRV := Lib.hid (reverse_any gB e w1.heap.size wr.heap.size L wr HO.out hl1 (by omega))
      clear hkq HPI hLk
      go_wp2_with fail
      refine HRV.out.mono ?_
      rintro e' w5 ⟨rfl, ho5, hon⟩
      rw [HE.out] at ho5
      have HL := Lib.hid (congrArg List.length HE.out)
      have hz1 := hbw.size
      have hz5 := hon.size
      have HO5 := Lib.hid (ho5.mono hz1 hz5)
      have hb5 := hbw.trans ((below_only hb hon (Nat.le_refl _) hb.size).mono hz1)
      clear ho5 hon
      go_wp2
      go_ret
      exact ⟨some ⟨gB, 0, none⟩, e, ret_slice (by rw [casts_length, ← HL.out, List.length_reverse]), HO5.out, hb5⟩
end Go.Proofs.Ytaocjjocncoahaa

namespace Go.Proofs.Ytaocjjocncoahaa
open Go.RowKit

def strB (W : List Nat) : Bool := decide ((spL W (2 ^ W.length - 1)).length = 1)
theorem strB_no {W : List Nat} (hT : IsT W) {a : Nat} (ha : a < W.length) (h : rc W a ≠ 2 ^ W.length - 1) : strB W = false := by
  unfold strB
  rw [decide_eq_false_iff_not]
  intro h1
  exact h ((parts_one hT).1 h1 a ha)
theorem strB_yes {W : List Nat} (hT : IsT W) (h : ∀ a, a < W.length → rc W a = 2 ^ W.length - 1) : strB W = true := by
  unfold strB
  rw [decide_eq_true_eq]
  exact (parts_one hT).2 h
theorem spL_len (W : List Nat) (hT : IsT W) : (casts (spL W (2 ^ W.length - 1))).length ≤ 8 := by rw [casts_length]; exact spL_le W hT
def rIsStrong (s : Int) (zs : List Int) : Bool := if okB s zs then strB (toW zs) else false
def rStrongParts (s : Int) (zs : List Int) : List Int := if okB s zs then casts (spL (toW zs) (2 ^ (toW zs).length - 1)) else []
theorem rStrongParts_len (s : Int) (zs : List Int) : (rStrongParts s zs).length ≤ 1048576 := by
  unfold rStrongParts
  cases ho : okB s zs
  · simp
  · obtain ⟨W, rfl, rfl, hT⟩ := ok_tour ho
    rw [if_pos rfl, toW_casts]
    have := spL_len W hT
    omega
theorem iStrongParts_any (A : Option Addr) (c : Nat) (s : Int) (zs : List Int) (w : World) (h : Row w w.heap.size A (ints zs)) (hl : zs.length ≤ 1099511627776) :
    Calls Try.prog 25 #[.agg #[.int .i64 s, .slice A zs.length c]] w (NewInts w 3 (rStrongParts s zs)) := by
  cases ho : okB s zs with
  | false =>
    have N : Hid (rStrongParts s zs = []) := Lib.hid (by unfold rStrongParts; rw [ho]; rfl)
    have HO := Lib.hid ho
    clear ho
    go_enter Try.func25, Try.ntmps25
    go_wp2_with fail
    refine (iTourOk_any A c s zs _ (h.rowAt (by go_grown) (Nat.le_refl _)) hl).mono ?_
    rw [HO.out]
    rintro e w1 ⟨rfl, hb⟩
    obtain ⟨k0, k1, hbw, hsz⟩ := box1 hb
    clear hb
    go_wp2
    go_ret
    exact newInts_none _ N.out hbw
  | true =>
    obtain ⟨W, rfl, rfl, hT⟩ := ok_tour ho
    have R : Hid (rStrongParts (W.length : Int) (casts W) = (casts (spL W (2 ^ W.length - 1)))) := Lib.hid (by unfold rStrongParts; rw [ho, toW_casts]; rfl)
    have g1 := hT.h1
    have g8 := hT.h8
    rw [casts_length]
    rw [R.out]
    clear R
    clear ho hl
    go_enter Try.func25, Try.ntmps25
    go_wp2_with fail
    refine (iTourOkW A c W _ hT (h.rowAt (by go_grown) (Nat.le_refl _))).mono ?_
    rintro e w1 ⟨rfl, hb⟩
    obtain ⟨k0, k1, hbw, hsz⟩ := box1 hb
    have h := h.rowAt hbw (Nat.le_refl _)
    clear hb
    go_wp2_with fail
    refine (parts_any A c W _ hT h).mono ?_
    rintro e w2 ⟨B, d, rfl, hoB, hb2⟩
    have hz := hbw.size
    go_wp2
    go_ret
    exact ⟨B, d, rfl, hoB.mono (by omega) (Nat.le_refl _), below_trans hbw hb2⟩
end Go.Proofs.Ytaocjjocncoahaa
