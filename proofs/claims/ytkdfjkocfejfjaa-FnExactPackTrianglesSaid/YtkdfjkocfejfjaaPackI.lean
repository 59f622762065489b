/- PackTriangles, the program's, walked. -/
import Derived.Test.YtkdfjkocfejfjaaPackA
import Derived.Test.YtkdfjkocfejfjaaTriang
namespace Go.Proofs.Ytkdfjkocfejfjaa
open Go.RowKit

/-- What both functions PackTriangles answer. -/
def rPackTriangles (s : Int) (zs : List Int) : List (List Int) := pkL (rTrianglesOf s zs) (rTrianglesOf s zs).length
theorem tri_parts {s : Int} {zs : List Int} {r : List Int} (h : r ∈ rTrianglesOf s zs) : ∃ W a b c, IsT W ∧ zs = casts W ∧ a < W.length ∧ b < W.length ∧ c < W.length ∧ r = tri3 a b c ∧ triN W a b c = true := by
  unfold rTrianglesOf at h
  split at h
  · rename_i ho
    obtain ⟨W, rfl, rfl, hT⟩ := ok_tour ho
    rw [toW_casts] at h
    obtain ⟨a, b, c, h1, h2, h3, h4, h5⟩ := triRows_mem W r h
    exact ⟨W, a, b, c, hT, rfl, h1, h2, h3, h4, h5⟩
  · cases h
theorem tri_small {s : Int} {zs : List Int} {r : List Int} (h : r ∈ rTrianglesOf s zs) : (∀ z ∈ r, 0 ≤ z ∧ z < 8) ∧ r.length ≤ 1099511627776 := by
  obtain ⟨W, a, b, c, hT, _, h1, h2, h3, rfl, _⟩ := tri_parts h
  have h8 := hT.h8
  refine ⟨fun z hz => ?_, by simp [tri3]⟩
  unfold tri3 at hz
  simp only [List.mem_cons, List.not_mem_nil, or_false] at hz
  rcases hz with rfl | rfl | rfl <;> omega
theorem rPackTriangles_sub (s : Int) (zs : List Int) (k : Nat) (hk : k ≤ (rTrianglesOf s zs).length) : ∀ r ∈ pkL (rTrianglesOf s zs) k, r ∈ rTrianglesOf s zs := pkL_sub _ k hk
theorem rPackTriangles_len (s : Int) (zs : List Int) : (rPackTriangles s zs).length ≤ 1000 ∧ (∀ r ∈ rPackTriangles s zs, r.length ≤ 1099511627776) ∧ total (rPackTriangles s zs) ≤ 1000000 := by
  obtain ⟨h1, h2, _⟩ := rTrianglesOf_len s zs
  have h3 := pkL_le (rTrianglesOf s zs) (rTrianglesOf s zs).length
  have h4 := rPackTriangles_sub s zs _ (Nat.le_refl _)
  have h5 : ∀ r ∈ rPackTriangles s zs, r.length ≤ 3 := by
    intro r hr
    obtain ⟨_, _, _, _, _, _, _, _, _, rfl, _⟩ := tri_parts (h4 r hr)
    simp [tri3]
  have h6 := total_le3 (rPackTriangles s zs) 3 h5
  have h7 : (rPackTriangles s zs).length ≤ 1000 := by unfold rPackTriangles; omega
  exact ⟨h7, fun r hr => h2 r (h4 r hr), by omega⟩
theorem pack_pred (Al : Option Addr) (cl : Nat) (l : List Int) (rs : List (List Int)) (w : World) (b : Nat) (hb : b < w.heap.size) (hc : w.cell? ⟨b, 0, none⟩ = some (.slice Al l.length cl)) (h : Row w w.heap.size Al (ints l))
    (hz : ∀ z ∈ l, 0 ≤ z ∧ z < 8) (hl : l.length ≤ 1099511627776) (hzs : ∀ r ∈ rs, (∀ z ∈ r, 0 ≤ z ∧ z < 8) ∧ r.length ≤ 1099511627776) :
    PredOnR 85 #[.pointer (some ⟨b, 0, none⟩)] (meetB l) rs w := by
  intro W A' c' r hbW hr hrow
  have h1 := h.rowAt hbW (Nat.le_refl _)
  have hc1 : W.cell? ⟨b, 0, none⟩ = some (.slice Al l.length cl) := (hbW.cell (p := ⟨b, 0, none⟩) hb).trans hc
  obtain ⟨hzr, hlr⟩ := hzs r hr
  have s1 := sT_small l hz
  have s2 := sT_small r hzr
  have HM : Hid (meetB l r = decide (2 ≤ pc 8 (sT l &&& sT r))) := Lib.hid rfl
  have HZ := Lib.hid hz
  have HZR := Lib.hid hzr
  have E := and_nat (sT l) (sT r) (by omega) (by omega)
  have s3 : sT l &&& sT r < 256 := Nat.and_lt_two_pow (n := 8) _ s2
  have hcall := fun w2 => onesCount_any ((sT l &&& sT r : Nat) : Int) w2 (by omega) (by omega)
  rw [Int.toNat_natCast] at hcall
  have HC := Lib.hid hcall
  clear h hc hz hzs hzr hbW hr hcall
  go_enter Try.func85, Try.ntmps85
  go_wp2_with fail
  refine (setOf_any Al cl l _ h1 HZ.out hl).mono ?_
  rintro e w1 ⟨rfl, hb1⟩
  go_wp2_with fail
  refine (setOf_any A' c' r _ (hrow.rowAt hb1 (Nat.le_refl _)) HZR.out hlr).mono ?_
  rintro e w2 ⟨rfl, hb2⟩
  have hp := pc_le 8 (sT l &&& sT r)
  generalize sT l &&& sT r = u at *
  generalize sT l = x at *
  generalize sT r = y at *
  go_wp2_with (go_at_call 57; refine (HC.out _).mono ?_; rintro e w' ⟨rfl, rfl⟩)
  go_ret
  exact ⟨ret_bool (by rw [HM.out]; simp; omega), below_trans hb1 hb2⟩
set_option maxHeartbeats 1600000 in
theorem iPackTriangles_any (A : Option Addr) (c : Nat) (s : Int) (zs : List Int) (w : World) (h : Row w w.heap.size A (ints zs)) (hl : zs.length ≤ 1099511627776) :
    Calls Try.prog 44 #[.agg #[.int .i64 s, .slice A zs.length c]] w (NewTable w (rPackTriangles s zs)) := by
  obtain ⟨t1, t2, _⟩ := rTrianglesOf_len s zs
  have HTS := Lib.hid (fun r (hr : r ∈ rTrianglesOf s zs) => tri_small hr)
  have HR : Hid (rPackTriangles s zs = pkL (rTrianglesOf s zs) (rTrianglesOf s zs).length) := Lib.hid rfl
  clear t2
  go_enter Try.func44, Try.ntmps44
  go_wp2_with fail
  refine (iTrianglesOf_any A c s zs _ (h.rowAt (by go_grown) (Nat.le_refl _)) hl).mono ?_
  rintro e w1 ⟨A1, c1, rfl, hoT, hb⟩
  obtain ⟨k0, k1, hbw, hsz⟩ := box1 hb
  obtain ⟨hs, hse, hout, hinn⟩ := hoT
  have hinn := hinn.mono (show w.heap.size ≤ _ by simp) (Nat.le_refl _)
  have hrow := hout.row
  have HE := Lib.hid hse
  have hle : hs.length ≤ (rTrianglesOf s zs).length ∧ (rTrianglesOf s zs).length ≤ hs.length := by omega
  clear hb hse hout h hl k0 k1
  generalize rTrianglesOf s zs = rs at *
  have HI := Lib.hid hinn
  have HW := Lib.hid hrow
  clear hinn hrow
  go_wp2
  go_loopw [3, 10] (fun v i wr => ∃ (k n d lo hi : Nat) (B : Option Addr), k ≤ rs.length ∧ i = .int .i64 (k : Int) ∧ v = .slice B n d ∧ Hid (n = (pkL rs k).length) ∧ n ≤ k ∧ w1.heap.size ≤ lo ∧ hi ≤ wr.heap.size ∧ lo ≤ wr.heap.size ∧ Own wr lo hi 22 B d (pkV hs rs k) ∧ Below w1.heap.size w1 wr) (fun _ i _ => rs.length - (intOf i).toNat)
  case atStart => exact ⟨0, 0, 0, w1.heap.size, w1.heap.size, none, Nat.zero_le _, rfl, rfl, Lib.hid rfl, Nat.le_refl _, Nat.le_refl _, Nat.le_refl _, Nat.le_refl _, Own.nil _ _ _ _, Below.refl _ _⟩
  case round =>
    obtain ⟨k, n, d, lo, hi, B, hk, rfl, rfl, HN, hn, hlo, hhi, hlo2, ho, hb⟩ := hrel
    have HO := Lib.hid ho
    clear ho
    by_cases hlt : k < rs.length
    · have hlh : k < hs.length := by omega
      obtain ⟨b, off, eA, hbB, hcells⟩ := HW.out (by rw [rowVs_length _ _ HE.out]; omega)
      subst eA
      have hcell : wr.cell? ⟨b, off + k, none⟩ = some (.slice hs[k].1 rs[k].length hs[k].2) := (hb.cell (p := ⟨b, off + k, none⟩) hbB).trans (hcells k _ (rowVs_get hs rs k hlh hlt))
      have hlrow : Row wr wr.heap.size hs[k].1 (ints rs[k]) := ((HI.out.1 k hlh hlt).row.below hb (Nat.le_refl _)).mono hb.size
      obtain ⟨z1, z2⟩ := HTS.out _ (List.getElem_mem hlt)
      have HZ := Lib.hid z1
      have hsub := pkL_sub rs k hk
      have HZS := Lib.hid (fun r (hr : r ∈ pkL rs k) => HTS.out r (hsub r hr))
      have htab : Table wr wr.heap.size B (pkL rs k) := pk_table k hk HE.out (HI.out.keep fun g _ hg => hb.block g hg) hb.size HO.out hhi
      have HG : Hid (rs.getD k [] = rs[k]) := Lib.hid (getD_lt _ _ _ hlt)
      have HMT := Lib.hid (fun h => pk_meets hs rs k h)
      have HNW := Lib.hid (fun h => pk_new hs rs k h hlh hlt)
      have hln : (pkL rs k).length ≤ 1099511627776 := by rw [← HN.out]; omega
      clear z1 hsub hcells hbB
      rw [HN.out] at *
      generalize rs[k] = l at *
      generalize hs[k].1 = Al at *
      generalize hs[k].2 = cl at *
      have hbx : Below wr.heap.size wr (wr.alloc (.cells #[.slice Al l.length cl] 22)) := (Below.refl _ _).alloc (Nat.le_refl _) _
      have hcf := containsFuncR_any 85 #[.pointer (some ⟨wr.heap.size, 0, none⟩)] (enters_of Try.func85 (by kernel_rfl) rfl) B d (pkL rs k) (meetB l) (wr.alloc (.cells #[.slice Al l.length cl] 22))
        (pack_pred Al cl l (pkL rs k) _ _ (by simp) (by go_simp) (hlrow.rowAt hbx (Nat.le_refl _)) HZ.out z2 HZS.out) (htab.rowAt hbx (Nat.le_refl _)) hln
      have HCF := Lib.hid hcf
      clear hcf hlrow htab hbx HZ HZS
      cases hm : (pkL rs k).any (meetB l) with
      | true =>
        obtain ⟨e1, e2⟩ := HMT.out (by rw [HG.out]; exact hm)
        have HM := Lib.hid hm
        have E1 := Lib.hid e1
        have E2 := Lib.hid e2
        clear e1 e2 hm HMT HNW
        go_wp2_with fail
        refine HCF.out.mono ?_
        rw [HM.out]
        rintro e w2 ⟨rfl, hb2⟩
        have hb3 : Below wr.heap.size wr w2 := ((Below.refl _ _).alloc (Nat.le_refl _) _).trans (hb2.mono (by simp))
        clear hb2
        go_wp2
        go_roundw
        case rel => exact ⟨k + 1, _, d, lo, hi, B, by omega, by go_num, rfl, (by rw [E1.out]; exact Lib.hid rfl), by omega, hlo, Nat.le_trans hhi hb3.size, Nat.le_trans hlo2 hb3.size, (by rw [E2.out]; exact HO.out.below hb3 hhi), hb.trans (hb3.mono hb.size)⟩
        case measure => simp [intOf]; omega
      | false =>
        obtain ⟨e1, e2⟩ := HNW.out (by rw [HG.out]; exact hm)
        have HM := Lib.hid hm
        have E1 := Lib.hid e1
        have E2 := Lib.hid e2
        clear e1 e2 hm HMT HNW
        go_wp2_with fail
        refine HCF.out.mono ?_
        rw [HM.out]
        rintro e w2 ⟨rfl, hb2⟩
        have hb3 : Below wr.heap.size wr w2 := ((Below.refl _ _).alloc (Nat.le_refl _) _).trans (hb2.mono (by simp))
        have cL : w2.cell? ⟨wr.heap.size, 0, none⟩ = some (.slice Al l.length cl) := (hb2.cell (p := ⟨wr.heap.size, 0, none⟩) (by simp)).trans (by go_simp)
        have hz2 : wr.heap.size < w2.heap.size := by have := hb2.size; simp at this; omega
        have HO2 := Lib.hid (HO.out.below hb3 hhi)
        have hpl := pkV_length hs rs k
        clear hb2 HCF
        go_wp2_with (at_builtin; refine wpList_pushV rfl (.tmp 19) (.tmp 21) rfl lo hi B d (pkL rs k).length (pkV hs rs k) Al l.length cl w2.heap.size rfl rfl hpl.symm ?c1 ?c2 (by omega) ?c3 ?c4 ?_)
        case c1 => exact HO2.out.alloc (by have := hb3.size; omega) _
        case c2 => go_simp
        case c3 => have := hb3.size; simp; omega
        case c4 => have := hb3.size; simp; omega
        intro A4 c4 w4 lo4 hi4 ho4 hhi4 hor
        have HO4 := Lib.hid ho4
        have hb5 : Below w1.heap.size w1 w4 ∧ w1.heap.size ≤ lo4 ∧ lo4 ≤ w4.heap.size := by
          have hb4 : Below w1.heap.size w1 (w2.alloc (.cells #[.slice Al l.length cl] 22)) := (hb.trans (hb3.mono hb.size)).alloc (Nat.le_trans hb.size hb3.size) _
          have hb41 := hb.size
          have hb31 := hb3.size
          rcases hor with ⟨rfl, rfl, hcap, hkb⟩ | ⟨hge, hbl⟩
          · refine ⟨hb4.trans ⟨hkb.os, hkb.tape, hkb.output, hkb.size, fun g hg => hkb.block g (by simp; omega) ?_⟩, hlo, ?_⟩
            · intro eB
              rcases own_block HO.out with h6 | ⟨g2, h6, h7, _⟩
              · rw [h6] at eB; cases eB
              · rw [h6] at eB
                simp only [Option.some.injEq, Addr.mk.injEq, and_true] at eB
                omega
            · have := hkb.size; simp at this; omega
          · refine ⟨hb4.trans (hbl.mono (by first | omega | (simp; omega))), by first | omega | (simp at hge; omega), ?_⟩
            rcases own_block HO4.out with h6 | ⟨g2, h6, h7, h8⟩
            · rcases HO4.out with ⟨_, h9, _⟩ | ⟨g, cur, h9, _⟩
              · simp at h9
              · rw [h6] at h9; cases h9
            · omega
        obtain ⟨hb5, hlo4, hlo5⟩ := hb5
        clear ho4 hor cL
        go_wp2
        go_roundw
        case rel => exact ⟨k + 1, (pkL rs k).length + 1, c4, lo4, hi4, A4, by omega, by go_num, rfl, Lib.hid (by rw [E1.out, List.length_append]; rfl), by omega, hlo4, hhi4, hlo5, (by rw [E2.out]; exact HO4.out), hb5⟩
        case measure => simp [intOf]; omega
    · obtain rfl : k = rs.length := by omega
      go_wp2
      go_ret
      exact ⟨B, d, ret_slice (by rw [HR.out]; exact HN.out), by rw [HR.out]; exact pk_ownT rs.length (Nat.le_refl _) HE.out (HI.out.keep fun g _ hg => hb.block g hg) hb.size HO.out hhi (Nat.le_refl _) (Nat.le_trans hbw.size hlo), hbw.trans (hb.mono hbw.size)⟩
end Go.Proofs.Ytkdfjkocfejfjaa
