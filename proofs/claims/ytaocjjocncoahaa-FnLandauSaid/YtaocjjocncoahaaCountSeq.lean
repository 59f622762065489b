/- countLandau, l03Count, CountSequences, walked. -/
import Derived.Test.YtaocjjocncoahaaMg7
import Derived.Test.YtaocjjocncoahaaSets
import Derived.Test.YtaocjjocncoahaaMg4
namespace Go.Proofs.Ytaocjjocncoahaa
open Go.RowKit

/-- What countLandau leaves: the number; the list as it was; nothing else turned. -/
def CLPost (w : World) (lo : Nat) (A : Option Addr) (c : Nat) (zs : List Int) (v : Nat) (e : Ending) (w' : World) : Prop :=
  e = .returned (.int .i64 (v : Nat)) ∧ Own w' lo w'.heap.size 3 A c (ints zs) ∧ KeepBut A w w'
theorem castI_snoc (ns : List Nat) (s : Nat) : castI (ns ++ [s]) = castI ns ++ [(s : Int)] := by simp [castI]

theorem cl_step {lo hi : Nat} {A A' : Option Addr} {c c' : Nat} {w wr1 w4 w5 : World} {zs : List Int} {z : Int} (h0 : KeepBut A w wr1) (hhi : hi ≤ wr1.heap.size) (hoA : Own w4 lo hi 3 A c (ints zs)) (hk : KeepBut A wr1 w4)
    (hd : (A' = A ∧ c' = c) ∨ ∃ q, A' = some ⟨q, 0, none⟩ ∧ wr1.heap.size ≤ q) (ho5 : Own w5 lo w5.heap.size 3 A' c' (ints (zs ++ [z]))) (hk5 : KeepBut A' w4 w5) : Own w5 lo w5.heap.size 3 A c (ints zs) ∧ KeepBut A w w5 := by
  have s1 := hk.size
  have s2 := hk5.size
  rcases hd with ⟨rfl, rfl⟩ | ⟨q, rfl, hq⟩
  · refine ⟨own_head (ys := [.int .i64 z]) (by simpa [ints] using ho5), (h0.trans hk).trans hk5⟩
  · refine ⟨(hoA.keep fun b h3 h4 => hk5.block b (by omega) (by intro e; simp only [Option.some.injEq, Addr.mk.injEq, and_true] at e; omega)).mono (Nat.le_refl _) (by omega), KeepBut.fresh hk5 (h0.trans hk) ⟨q, rfl, Nat.le_trans h0.size hq⟩⟩

set_option maxHeartbeats 1600000 in
theorem countLandau_any (n : Nat) (h1 : 1 ≤ n) (h8 : n ≤ 8) (f : Nat) : ∀ (A : Option Addr) (c k : Nat) (ns : List Nat) (lo : Nat) (w : World), k = ns.length → k + f = n → goodN n ns → Own w lo w.heap.size 3 A c (ints (castI ns)) → lo ≤ w.heap.size →
    Calls Try.prog 60 #[.int .i64 (n : Int), .slice A k c] w (CLPost w lo A c (castI ns) (clN n f ns)) := by
  induction f with
  | zero =>
    intro A c k ns lo w hk hkf hg hown hlo
    have hkn : k = n := by omega
    have e0 : ((k : Int) == (n : Int)) = true := by simp [hkn]
    have hrow := hown.row
    have HC := Lib.hid (fun W hr => iIsLandau_any A c (castI ns) W hr (by rw [castI_length]; omega))
    rw [castI_length, ← hk] at HC
    have HO := Lib.hid hown
    clear hown hkn hk hg hkf
    cases hl : lanS (castI ns) with
    | true =>
      have HV : Hid (clN n 0 ns = 1) := Lib.hid (by rw [clN, hl]; rfl)
      have HL : Hid (rIsLandau (castI ns) = true) := Lib.hid hl
      clear hl
      go_enter Try.func60, Try.ntmps60
      go_wp2_with fail
      refine (HC.out _ hrow).mono ?_
      rw [HL.out]
      rintro e w1 ⟨rfl, hb⟩
      go_wp2_with fail
      go_ret
      exact ⟨ret_int (by rw [HV.out]; rfl), (HO.out.below hb (Nat.le_refl _)).mono (Nat.le_refl _) hb.size, KeepBut.of_below hb⟩
    | false =>
      have HV : Hid (clN n 0 ns = 0) := Lib.hid (by rw [clN, hl]; rfl)
      have HL : Hid (rIsLandau (castI ns) = false) := Lib.hid hl
      clear hl
      go_enter Try.func60, Try.ntmps60
      go_wp2_with fail
      refine (HC.out _ hrow).mono ?_
      rw [HL.out]
      rintro e w1 ⟨rfl, hb⟩
      go_wp2_with fail
      go_ret
      exact ⟨ret_int (by rw [HV.out]; rfl), (HO.out.below hb (Nat.le_refl _)).mono (Nat.le_refl _) hb.size, KeepBut.of_below hb⟩
  | succ f ih =>
    intro A c k ns lo w hk hkf hg hown hlo
    have hkn : k < n := by omega
    have e0 : ((k : Int) == (n : Int)) = false := by simp; omega
    have hf7 : f ≤ 7 := by omega
    have h8f : 8 ^ f ≤ 2097152 := Nat.le_trans (Nat.pow_le_pow_right (by omega) hf7) (by decide)
    have hln : leastN ns ≤ n := by
      unfold leastN
      by_cases e : ns.length = 0
      · rw [List.getD, List.getElem?_eq_none (by omega)]; simp
      · exact Nat.le_of_lt (hg.1 _ (by omega))
    have HV : Hid (clN n (f + 1) ns = rsum (fun s => clN n f (ns ++ [s])) (leastN ns) (n - leastN ns)) := Lib.hid rfl
    have HB := Lib.hid (fun j => rsum_le (fun s => clN n f (ns ++ [s])) (8 ^ f) (leastN ns) j (fun x => clN_le n h8 f (ns ++ [x])))
    have HK := Lib.hid hk
    have HG := Lib.hid hg
    have HO := Lib.hid hown
    have hkf' : k + 1 + f = n := by omega
    by_cases hk0 : 0 < k
    · have hrow := hown.row
      obtain ⟨b, off, rfl, hbB, hc⟩ := hrow.int (k := k - 1) (by rw [castI_length]; omega)
      have hlast : (castI ns)[k - 1]'(by rw [castI_length]; omega) = ((leastN ns : Nat) : Int) := by
        have := castI_getD ns (k - 1)
        rw [getD_lt _ _ _ (by rw [castI_length]; omega)] at this
        rw [this]
        unfold leastN
        rw [← hk]
      rw [hlast] at hc
      have t0 : (k : Int) - 1 = ((k - 1 : Nat) : Int) := by omega
      have HGS := Lib.hid (fun s (h1 : leastN ns ≤ s) (h2 : s < n) => goodN_snoc n ns s hg h1 h2)
      clear hrow hown hk hg hkf hlast
      generalize leastN ns = le at *
      go_enter Try.func60, Try.ntmps60
      go_wp2
      go_loopw [6, 7] (fun v i wr => ∃ j : Nat, j ≤ n - le ∧ i = .int .i64 ((le + j : Nat) : Int) ∧ v = .int .i64 (rsum (fun s => clN n f (ns ++ [s])) le j : Nat) ∧ Own wr lo wr.heap.size 3 (some ⟨b, off, none⟩) c (ints (castI ns)) ∧ KeepBut (some ⟨b, off, none⟩) w wr) (fun _ i _ => n - (intOf i).toNat)
      case atStart => exact ⟨0, Nat.zero_le _, by first | rfl | (simp; done) | simp [Nat.add_zero], rfl, HO.out, KeepBut.refl _ _⟩
      case round =>
        obtain ⟨j, hj, rfl, rfl, ho, hkb⟩ := hrel
        have HO := Lib.hid ho
        clear ho
        by_cases hlt : le + j < n
        · have hgs := HGS.out (le + j) (by omega) hlt
          have HCL := Lib.hid (fun A' c' W hr hz => ih A' c' (k + 1) (ns ++ [le + j]) lo W (by rw [List.length_append, ← HK.out]; rfl) hkf' hgs hr hz)
          have HR := Lib.hid (rsum_succ (fun s => clN n f (ns ++ [s])) le j)
          have hle1 := HB.out (j + 1) (by omega)
          have hle0 := HB.out j (by omega)
          have hsz := hkb.size
          have hv0 : Hid (rsum (fun s => clN n f (ns ++ [s])) le (j + 1) = rsum (fun s => clN n f (ns ++ [s])) le j + clN n f (ns ++ [le + j])) := Lib.hid HR.out
          have E3 : IntKind.i64.wrap (((rsum (fun s => clN n f (ns ++ [s])) le j : Nat) : Int) + (clN n f (ns ++ [le + j]) : Nat)) = ((rsum (fun s => clN n f (ns ++ [s])) le (j + 1) : Nat) : Int) := by
            rw [hv0.out] at hle1 ⊢
            rw [IntKind.wrap_i64]; omega
          clear ih hgs
          generalize hs : le + j = s at *
          have HS := Lib.hid hs
          clear hs
          go_wp2_with (at_builtin; refine wpList_pushKeep rfl (.tmp 31) (.tmp 33) rfl lo wr.heap.size (some ⟨b, off, none⟩) c k (castI ns) (s : Int) wr.heap.size rfl rfl ?c1 ?c2 ?c3 (by omega) ?c4 ?c5 ?_)
          case c1 => rw [castI_length]; exact HK.out
          case c2 => exact HO.out.alloc (Nat.le_refl _) _
          case c3 => go_simp
          case c4 => simp; omega
          case c5 => simp
          intro A' c' w4 ho4 hoA hk4 hd4
          rw [← castI_snoc] at ho4
          have hkw : KeepBut (some ⟨b, off, none⟩) w (wr.alloc (.cells #[.int .i64 (s : Int)] 3)) := hkb.trans (KeepBut.of_below (by go_grown))
          go_wp2_with fail
          refine (HCL.out A' c' w4 ho4 (by have := hk4.size; simp at this; omega)).mono ?_
          rintro e w5 ⟨rfl, ho5, hk5⟩
          rw [castI_snoc] at ho5
          obtain ⟨ho6, hk6⟩ := cl_step hkw (by simp) hoA hk4 (by rw [World.size_alloc]; exact hd4) ho5 hk5
          go_wp2
          go_roundw
          case rel => exact ⟨j + 1, by have := HS.out; omega, by rw [show le + (j + 1) = s + 1 by have := HS.out; omega]; rfl, by first | rfl | (rw [hv0.out]; go_num), ho6, hk6⟩
          case measure => simp [intOf]; omega
        · have ej : j = n - le := by omega
          have EJ := Lib.hid ej
          clear ej
          go_wp2
          go_ret
          exact ⟨ret_int (by rw [EJ.out]; exact congrArg _ HV.out.symm), HO.out, hkb⟩
    · have hkz : k = 0 := by omega
      have hle0 : leastN ns = 0 := by
        unfold leastN
        rw [List.getD, List.getElem?_eq_none (by omega)]
        rfl
      have HGS := Lib.hid (fun s (h1 : leastN ns ≤ s) (h2 : s < n) => goodN_snoc n ns s hg h1 h2)
      clear hkz
      clear hown hk hg hkf
      generalize hle : leastN ns = le at *
      subst hle0
      go_enter Try.func60, Try.ntmps60
      go_wp2
      go_loopw [6, 7] (fun v i wr => ∃ j : Nat, j ≤ n - 0 ∧ i = .int .i64 ((0 + j : Nat) : Int) ∧ v = .int .i64 (rsum (fun s => clN n f (ns ++ [s])) 0 j : Nat) ∧ Own wr lo wr.heap.size 3 A c (ints (castI ns)) ∧ KeepBut A w wr) (fun _ i _ => n - (intOf i).toNat)
      case atStart => exact ⟨0, Nat.zero_le _, by first | rfl | (simp; done) | simp [Nat.add_zero], rfl, HO.out, KeepBut.refl _ _⟩
      case round =>
        obtain ⟨j, hj, rfl, rfl, ho, hkb⟩ := hrel
        have HO := Lib.hid ho
        clear ho
        by_cases hlt : 0 + j < n
        · have hgs := HGS.out (0 + j) (by omega) hlt
          have HCL := Lib.hid (fun A' c' W hr hz => ih A' c' (k + 1) (ns ++ [0 + j]) lo W (by rw [List.length_append, ← HK.out]; rfl) hkf' hgs hr hz)
          have HR := Lib.hid (rsum_succ (fun s => clN n f (ns ++ [s])) 0 j)
          have hle1 := HB.out (j + 1) (by omega)
          have hle0 := HB.out j (by omega)
          have hsz := hkb.size
          have hv0 : Hid (rsum (fun s => clN n f (ns ++ [s])) 0 (j + 1) = rsum (fun s => clN n f (ns ++ [s])) 0 j + clN n f (ns ++ [0 + j])) := Lib.hid HR.out
          have E3 : IntKind.i64.wrap (((rsum (fun s => clN n f (ns ++ [s])) 0 j : Nat) : Int) + (clN n f (ns ++ [0 + j]) : Nat)) = ((rsum (fun s => clN n f (ns ++ [s])) 0 (j + 1) : Nat) : Int) := by
            rw [hv0.out] at hle1 ⊢
            rw [IntKind.wrap_i64]; omega
          clear ih hgs
          generalize hs : 0 + j = s at *
          have HS := Lib.hid hs
          clear hs
          go_wp2_with (at_builtin; refine wpList_pushKeep rfl (.tmp 31) (.tmp 33) rfl lo wr.heap.size A c k (castI ns) (s : Int) wr.heap.size rfl rfl ?c1 ?c2 ?c3 (by omega) ?c4 ?c5 ?_)
          case c1 => rw [castI_length]; exact HK.out
          case c2 => exact HO.out.alloc (Nat.le_refl _) _
          case c3 => go_simp
          case c4 => simp; omega
          case c5 => simp
          intro A' c' w4 ho4 hoA hk4 hd4
          rw [← castI_snoc] at ho4
          have hkw : KeepBut A w (wr.alloc (.cells #[.int .i64 (s : Int)] 3)) := hkb.trans (KeepBut.of_below (by go_grown))
          go_wp2_with fail
          refine (HCL.out A' c' w4 ho4 (by have := hk4.size; simp at this; omega)).mono ?_
          rintro e w5 ⟨rfl, ho5, hk5⟩
          rw [castI_snoc] at ho5
          obtain ⟨ho6, hk6⟩ := cl_step hkw (by simp) hoA hk4 (by rw [World.size_alloc]; exact hd4) ho5 hk5
          go_wp2
          go_roundw
          case rel => exact ⟨j + 1, by have := HS.out; omega, by rw [show 0 + (j + 1) = s + 1 by have := HS.out; omega]; rfl, by first | rfl | (rw [hv0.out]; go_num), ho6, hk6⟩
          case measure => simp [intOf]; omega
        · have ej : j = n - 0 := by omega
          have EJ := Lib.hid ej
          clear ej
          go_wp2
          go_ret
          exact ⟨ret_int (by rw [EJ.out]; exact congrArg _ HV.out.symm), HO.out, hkb⟩

theorem l3_cut (n f k last sum j : Nat) (hj : j ≤ n - last) (hx : triS n < sum + (last + j) * (n - k)) :
    rsum (fun x => if sum + x * (n - k) ≤ triS n then l3N n f (k + 1) x (sum + x) else 0) last (n - last) = rsum (fun x => if sum + x * (n - k) ≤ triS n then l3N n f (k + 1) x (sum + x) else 0) last j := by
  refine rsum_cut _ _ _ _ hj fun i h1 h2 => ?_
  rw [if_neg]
  have : (last + j) * (n - k) ≤ (last + i) * (n - k) := Nat.mul_le_mul_right _ (by omega)
  omega
theorem tri_form (k : Nat) (hk : k ≤ 8) : ∃ p : Nat, Hid (p / 2 = triS k) ∧ p ≤ 56 ∧ Hid ((k : Int) * ((k : Int) - 1) = (p : Int)) := by
  refine ⟨k * (k - 1), Lib.hid rfl, Nat.mul_le_mul (show k ≤ 8 by omega) (show k - 1 ≤ 7 by omega), Lib.hid ?_⟩
  cases k with
  | zero => rfl
  | succ k => rw [Int.natCast_mul, show ((k + 1 : Nat) : Int) - 1 = ((k + 1 - 1 : Nat) : Int) by omega]
def rCountSequences (x : Int) : Int := if 1 ≤ x ∧ x ≤ 8 then (clN x.toNat x.toNat [] : Nat) else -1
theorem iCountSequences_any (x : Int) (w : World) :
    Calls Try.prog 28 #[.int .i64 x] w fun e w' => e = .returned (.int .i64 (rCountSequences x)) ∧ Below w.heap.size w w' := by
  by_cases h : 1 ≤ x ∧ x ≤ 8
  · obtain ⟨n, rfl⟩ := Int.eq_ofNat_of_zero_le (show 0 ≤ x by omega)
    obtain ⟨h1, h8⟩ : 1 ≤ n ∧ n ≤ 8 := by omega
    have R : Hid (rCountSequences (n : Int) = (clN n n [] : Nat)) := Lib.hid (by unfold rCountSequences; rw [if_pos h, Int.toNat_natCast])
    have HC := Lib.hid (fun W => countLandau_any n h1 h8 n none 0 0 [] W.heap.size W rfl (by omega) ⟨fun i hi => absurd hi (by simp), fun i hi => absurd hi (by simp)⟩ (.inl ⟨rfl, rfl, rfl⟩) (Nat.le_refl _))
    clear h
    go_enter Try.func28, Try.ntmps28
    go_wp2_with (go_at_call 33; refine (within_yes _ _ _ _ (by omega) (by omega)).mono ?_; rintro e w' ⟨rfl, rfl⟩)
    go_wp2_with fail
    refine (HC.out _).mono ?_
    rintro e w2 ⟨rfl, ho, hk⟩
    go_wp2
    go_ret
    exact ⟨ret_int R.out.symm, hk.none⟩
  · have R : Hid (rCountSequences x = -1) := Lib.hid (if_neg h)
    have h' : x < 1 ∨ 8 < x := by omega
    clear h
    go_enter Try.func28, Try.ntmps28
    go_wp2_with (go_at_call 33; refine (within_no _ _ _ _ h').mono ?_; rintro e w' ⟨rfl, rfl⟩)
    go_ret
    exact ⟨ret_int R.out.symm, Below.refl _ _⟩
end Go.Proofs.Ytaocjjocncoahaa
