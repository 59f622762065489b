/- The law FnWords, walked: it returns true. -/
import Derived.Test.YtliimojaoegdhaaDoorWordsP
import Derived.Test.YtliimojaoegdhaaDoorLines
import Derived.Test.YtliimojaoegdhaaDoorParse
import Derived.Lib.ItoaLen
namespace Go.Proofs.YtliimojaoegdhaaDoor
open Go.RowKit
theorem spSt_piece (s b : ByteArray) (i : Nat) : ∀ p ∈ (spSt s b i).1, p.size ≤ s.size := by
  induction i with
  | zero => simp [spSt]
  | succ i ih =>
    rw [spSt]
    split
    · intro p hp
      rcases List.mem_append.1 hp with hp | hp
      · exact ih p hp
      · rw [List.mem_singleton] at hp
        rw [hp, ByteArray.size_extract]; omega
    · exact ih
theorem split_piece (s b : ByteArray) : ∀ p ∈ rSplitAny s b, p.size ≤ s.size := by
  intro p hp
  rcases List.mem_append.1 hp with hp | hp
  · exact spSt_piece s b _ p hp
  · rw [List.mem_singleton] at hp
    rw [hp, ByteArray.size_extract]; omega
theorem szs_bound (m : Nat) : ∀ (l : List ByteArray), (∀ p ∈ l, p.size ≤ m) → (l.map ByteArray.size).sum ≤ m * l.length
  | [], _ => by simp
  | x :: l, h => by
    have h1 := szs_bound m l (fun p hp => h p (by simp [hp]))
    have h2 := h x (by simp)
    rw [List.map_cons, List.sum_cons, List.length_cons, Nat.mul_succ]
    omega
theorem two_lines : (rSplitLines ⟨#[97, 10, 98, 10]⟩).length = 2 := by decide +kernel
theorem name_x1 : nameB (ByteArray.mk #[120, 49]).data.toList = true := by decide +kernel
set_option maxRecDepth 20000 in
set_option maxHeartbeats 1600000 in
theorem walkFnWords (A : Option Addr) (c : Nat) (z : List Int) (w : World) (_ : z.length ≤ c) (_ : c ≤ maxLen) (h : Row w w.heap.size A (u8s z)) (hz : ∀ x ∈ z, 0 ≤ x ∧ x ≤ 255) (hp : Pow w) (he : Errs w) (hsh : w.ShapedOpen Tryd.prog) :
    Calls Tryd.prog 8 #[.slice A z.length c] w fun e w' => e = .returned (.bool true) ∧ Below w.heap.size w w' := by
  by_cases hbig : 1048576 < z.length
  · skip
    go_enter Tryd.func8, Tryd.ntmps8
    go_wp2
    go_ret
    exact ⟨rfl, Below.refl _ _⟩
  have HN := Lib.hid (makeNum_one A c z w h hz (by omega))
  have HT := Lib.hid (fun W' (hW : Below w.heap.size w W') => makeText_any A c z W' (h.rowAt hW (Nat.le_refl _)) hz (by omega))
  have HZ := Lib.hid (fun W' (hW : Below w.heap.size w W') => iSplitLines_any ⟨#[97, 10, 98, 10]⟩ W' (by decide) (shaped_below hsh hW))
  have HM := Lib.hid (fun W' => iName ⟨#[120, 49]⟩ W' (by decide))
  rw [name_x1] at HM
  clear hsh h hz
  go_enter Tryd.func8, Tryd.ntmps8
  go_wp2_with fail
  refine HN.out.mono ?_
  rintro e w1 ⟨x, hx, rfl, hb1⟩
  have hI : InI ((x : Int) - 30000) := ⟨by omega, by omega⟩
  have hfs : (fmtI ((x : Int) - 30000)).size ≤ 1048576 := by
    have := Lib.itoa_length_le _ hI.1 hI.2
    unfold fmtI
    rw [mk_size]
    omega
  have HF := Lib.hid (iFormat_any ((x : Int) - 30000) w1 (WalkArith.wf_i64 hI) (hp.on hb1))
  have HP := Lib.hid (fun W' hp' he' => iParse_any (fmtI ((x : Int) - 30000)) W' hfs hp' he')
  have P2 : PI (fmtI ((x : Int) - 30000)) ((x : Int) - 30000) true := .inl ⟨rfl, hI, rfl⟩
  obtain ⟨n, hn⟩ : ∃ n : Int, n = (x : Int) - 30000 := ⟨_, rfl⟩
  rw [← hn] at HF HP P2
  have e0 : (x : Int) - 30000 = n := hn.symm
  have e1 : IntKind.i64.wrap ((x : Int) - 30000) = n := by rw [IntKind.wrap_i64]; omega
  generalize fmtI n = r at *
  clear hfs hI hn
  go_wp2_with fail
  try rw [e0]
  refine HF.out.mono ?_
  rintro e w2 ⟨rfl, hb2⟩
  have hb12 := below_trans hb1 hb2
  go_wp2_with fail
  refine (HP.out _ (hp.on hb12) (he.on hb12)).mono ?_
  rintro e w3 ⟨n', ok, rfl, P1, hb3⟩
  obtain ⟨q1, q2⟩ := P1.one P2
  subst q1
  subst q2
  clear P1 P2
  have hb13 := below_trans hb12 hb3
  go_wp2_with fail
  refine (HT.out _ hb13).mono ?_
  rintro e w4 ⟨s, hs, rfl, hb4⟩
  have hb14 := below_trans hb13 hb4
  have HS := Lib.hid (iSplitAny_any s ⟨#[32]⟩ w4 (by omega))
  have hlen := rSplitAny_len s ⟨#[32]⟩
  have hsz := szs_bound 1000 (rSplitAny s ⟨#[32]⟩) (fun p hp => Nat.le_trans (split_piece s _ p hp) hs)
  have hsz2 : szs (rSplitAny s ⟨#[32]⟩) (rSplitAny s ⟨#[32]⟩).length ≤ 1000 * (rSplitAny s ⟨#[32]⟩).length := by unfold szs; rw [List.take_length]; exact hsz
  have HJ := Lib.hid (fun A' c' W' hr hc => (by
    have := iJoin_any A' c' (rSplitAny s ⟨#[32]⟩) ⟨#[32]⟩ W' hr (by omega) (by decide) hc
    rwa [join_split s ⟨#[32]⟩ 32 rfl] at this :
    Calls Tryd.prog 29 #[.slice A' (rSplitAny s ⟨#[32]⟩).length c', .string ⟨#[32]⟩] W' fun e w' => e = .returned (.string s) ∧ Below W'.heap.size W' w'))
  have hx2 : (s.toList == s.toList) = true := by simp
  generalize rSplitAny s ⟨#[32]⟩ = ss at *
  clear hsz hsz2 hlen
  go_wp2_with fail
  refine HS.out.mono ?_
  rintro e w5 ⟨A5, c5, rfl, ho5, hb5⟩
  have hcap := ho5.cap.1
  rw [strs_length] at hcap
  go_wp2_with fail
  refine (HJ.out A5 c5 _ ho5.row hcap).mono ?_
  rintro e w6 ⟨rfl, hb6⟩
  go_wp2_with fail
  refine (HM.out _).mono ?_
  rintro e w7 ⟨rfl, rfl⟩
  have hb16 := below_trans hb14 (below_trans hb5 hb6)
  go_wp2_with fail
  refine (HZ.out _ hb16).mono ?_
  rintro e w8 ⟨A8, c8, d8, rfl, ho8, hb8⟩
  rw [two_lines]
  go_wp2
  go_ret
  exact ⟨rfl, below_trans hb16 hb8⟩
end Go.Proofs.YtliimojaoegdhaaDoor
