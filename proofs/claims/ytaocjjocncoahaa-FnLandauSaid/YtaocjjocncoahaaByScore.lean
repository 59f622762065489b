/- SortStableFunc, Reverse, byScore, parts, walked. -/
import Derived.Test.YtaocjjocncoahaaSortF
import Derived.Test.YtaocjjocncoahaaReachW
import Derived.Test.YtaocjjocncoahaaScore
namespace Go.Proofs.Ytaocjjocncoahaa
open Go.RowKit

/-- The list at ga has been sorted by the key. -/
def SortedAt (w : World) (lo hi ga c : Nat) (κ : Nat → Int) (os : List Nat) (e : Ending) (w' : World) : Prop :=
  e = .returned (.tuple #[]) ∧ ∃ L : List Nat, L.Perm os ∧ AscTo κ L os.length ∧ Own w' lo hi 3 (some ⟨ga, 0, none⟩) c (ints (casts L)) ∧ Only lo hi w w'
theorem stable_any (g : Nat) (lb : Array Value) (eg : ∀ args w, (callFunc g args).run Try.prog w = .ok (.enter g args) w) (f : Nat → Nat → Int) (κ : Nat → Int) (m n ga c lo hi : Nat) (os : List Nat) (w : World)
    (hp : PredCmp g lb f m n w) (hk : ∀ x y, x < n → y < n → (f x y < 0 ↔ κ x < κ y)) (hos : ∀ x ∈ os, x < n) (h : Own w lo hi 3 (some ⟨ga, 0, none⟩) c (ints (casts os))) (hm : m ≤ lo) (hhi : hi ≤ w.heap.size) (h1 : 1 ≤ os.length) (h8 : os.length ≤ 12) :
    Calls Try.prog 119 #[.slice (some ⟨ga, 0, none⟩) os.length c, .int .i64 (os.length : Int), .func (.func g) #[] lb] w (SortedAt w lo hi ga c κ os) := by
  have HX := Lib.hid (insSort_any g lb eg f κ m n ga c lo hi os w hp hk hos h hm hhi h1 h8)
  have hlt : ¬ ((20 : Int) ≤ (os.length : Int)) := by omega
  have hlt2 : ¬ ((20 : Int) < (os.length : Int)) := by omega
  clear hp hk hos h
  go_enter Try.func119, Try.ntmps119
  go_wp2
  go_loop [7, 8] (fun a b => a = .int .i64 0 ∧ b = .int .i64 20) (fun _ _ => 0)
  case atStart => exact ⟨rfl, rfl⟩
  case round =>
    obtain ⟨rfl, rfl⟩ := hrel
    go_wp2_with fail
    refine HX.out.mono ?_
    rintro e w1 ⟨rfl, L, h1, h2, h3, h4⟩
    have HR := Lib.hid (And.intro h1 (And.intro h2 (And.intro h3 h4)))
    clear h1 h2 h3 h4
    go_wp2
    go_loop [6] (fun a => a = .int .i64 20) (fun _ => 0)
    case atStart => rfl
    case round =>
      obtain rfl := hrel
      go_wp2
      go_end0
      exact ⟨rfl, L, HR.out⟩
theorem sortStable_any (g : Nat) (lb : Array Value) (eg : ∀ args w, (callFunc g args).run Try.prog w = .ok (.enter g args) w) (f : Nat → Nat → Int) (κ : Nat → Int) (m n ga c lo hi : Nat) (os : List Nat) (w : World)
    (hp : PredCmp g lb f m n w) (hk : ∀ x y, x < n → y < n → (f x y < 0 ↔ κ x < κ y)) (hos : ∀ x ∈ os, x < n) (h : Own w lo hi 3 (some ⟨ga, 0, none⟩) c (ints (casts os))) (hm : m ≤ lo) (hhi : hi ≤ w.heap.size) (h1 : 1 ≤ os.length) (h8 : os.length ≤ 12) :
    Calls Try.prog 109 #[.slice (some ⟨ga, 0, none⟩) os.length c, .func (.func g) #[] lb] w (SortedAt w lo hi ga c κ os) := by
  have HX := Lib.hid (stable_any g lb eg f κ m n ga c lo hi os w hp hk hos h hm hhi h1 h8)
  clear hp hk hos h
  go_enter Try.func109, Try.ntmps109
  go_wp2_with fail
  refine HX.out.mono ?_
  rintro e w1 ⟨rfl, L, h1, h2, h3, h4⟩
  have HR := Lib.hid (And.intro h1 (And.intro h2 (And.intro h3 h4)))
  clear h1 h2 h3 h4
  go_wp2
  go_end0
  exact ⟨rfl, L, HR.out⟩

/-- A list of which k elements at each end have changed places. -/
def revN (L : List Nat) (k : Nat) : List Nat := (List.range L.length).map fun p => if p < k ∨ L.length - k ≤ p then L.getD (L.length - 1 - p) 0 else L.getD p 0
theorem revN_length (L : List Nat) (k : Nat) : (revN L k).length = L.length := by simp [revN]
theorem revN_zero (L : List Nat) : revN L 0 = L := by
  refine List.ext_getElem (revN_length L 0) fun i h1 h2 => ?_
  have : ¬ (i < 0 ∨ L.length - 0 ≤ i) := by omega
  simp only [revN, List.getElem_map, List.getElem_range]
  rw [if_neg this, getD_lt _ _ _ h2]
theorem revN_at (L : List Nat) (k p : Nat) (h : p < (revN L k).length) (h1 : k ≤ p) (h2 : p + k < L.length) : (revN L k)[p] = L.getD p 0 := by
  simp only [revN, List.getElem_map, List.getElem_range]
  rw [if_neg (by omega)]
theorem revN_step (L : List Nat) (k : Nat) (h : k + k + 1 < L.length) : ((revN L k).set k (L.getD (L.length - 1 - k) 0)).set (L.length - 1 - k) (L.getD k 0) = revN L (k + 1) := by
  refine List.ext_getElem (by simp [revN]) fun i h1 h2 => ?_
  rw [revN_length] at h2
  rw [List.getElem_set, List.getElem_set]
  simp only [revN, List.getElem_map, List.getElem_range]
  by_cases e1 : L.length - 1 - k = i
  · subst e1
    rw [if_pos rfl, if_pos (by omega)]
    congr 1
    omega
  · rw [if_neg e1]
    by_cases e2 : k = i
    · subst e2
      rw [if_pos rfl, if_pos (by omega)]
    · rw [if_neg e2]
      by_cases e3 : i < k ∨ L.length - k ≤ i
      · rw [if_pos e3, if_pos (by omega)]
      · rw [if_neg e3, if_neg (by omega)]
theorem revN_end (L : List Nat) (k : Nat) (h : L.length ≤ k + k + 1) (hk : k ≤ L.length) : revN L k = L.reverse := by
  refine List.ext_getElem (by simp [revN]) fun i h1 h2 => ?_
  rw [revN_length] at h1
  rw [List.getElem_reverse]
  simp only [revN, List.getElem_map, List.getElem_range]
  by_cases e3 : i < k ∨ L.length - k ≤ i
  · rw [if_pos e3, getD_lt _ _ _ (by omega)]
  · rw [if_neg e3, getD_lt _ _ _ (by omega)]
    congr 1
    omega
theorem reverse_any (ga c lo hi : Nat) (L : List Nat) (w : World) (h : Own w lo hi 3 (some ⟨ga, 0, none⟩) c (ints (casts L))) (h1 : 1 ≤ L.length) (h8 : L.length ≤ 1000000) :
    Calls Try.prog 86 #[.slice (some ⟨ga, 0, none⟩) L.length c] w fun e w' => e = .returned (.tuple #[]) ∧ Own w' lo hi 3 (some ⟨ga, 0, none⟩) c (ints (casts L.reverse)) ∧ Only lo hi w w' := by
  have hgl : lo ≤ ga ∧ ga < hi := by
    obtain ⟨g', e, a, b, _⟩ := h.int (k := 0) (by rw [casts_length]; omega)
    simp only [Option.some.injEq, Addr.mk.injEq, and_true] at e
    subst e
    exact ⟨a, b⟩
  obtain ⟨hg1, hg2⟩ := hgl
  go_enter Try.func86, Try.ntmps86
  go_wp2
  go_loopw [2, 3] (fun i j wr => ∃ k q : Nat, k ≤ L.length ∧ k + q + 1 = L.length ∧ k ≤ q + 1 ∧ i = .int .i64 (k : Int) ∧ j = .int .i64 (q : Int) ∧ Own wr lo hi 3 (some ⟨ga, 0, none⟩) c (ints (casts (revN L k))) ∧ Only lo hi w wr) (fun i _ _ => L.length - (intOf i).toNat)
  case atStart => exact ⟨0, L.length - 1, Nat.zero_le _, by omega, by omega, rfl, by congr 1; omega, by rw [revN_zero]; exact h, Only.refl _ _ _⟩
  case round =>
    clear h
    obtain ⟨k, q, hk, hkq, hkq2, rfl, rfl, ho, hon⟩ := hrel
    by_cases hlt : k < q
    · have l1 : k < (revN L k).length := by rw [revN_length]; omega
      have l2 : q < (revN L k).length := by rw [revN_length]; omega
      obtain ⟨g', e, _, _, x0, f0⟩ := ho.nat l1
      simp only [Option.some.injEq, Addr.mk.injEq, and_true] at e
      subst e
      obtain ⟨g', e, _, _, y0, f1⟩ := ho.nat l2
      simp only [Option.some.injEq, Addr.mk.injEq, and_true] at e
      subst e
      rw [revN_at L k k l1 (Nat.le_refl _) (by omega)] at x0
      rw [revN_at L k q l2 (by omega) (by omega)] at y0
      have hst := revN_step L k (by omega)
      rw [show L.length - 1 - k = q by omega] at hst
      have ho2 := (ho.set k (.int .i64 (L.getD q 0 : Nat))).set q (.int .i64 (L.getD k 0 : Nat))
      rw [ints_casts_set, ints_casts_set, hst] at ho2
      have ho3 := (ho.set q (.int .i64 (L.getD k 0 : Nat))).set k (.int .i64 (L.getD q 0 : Nat))
      rw [ints_casts_set, ints_casts_set, List.set_comm _ _ (by omega), hst] at ho3
      have HO2 := Lib.hid ho2
      have HO3 := Lib.hid ho3
      have hq9 : q < 1000000 := by omega
      clear ho ho2 ho3 hst l1 l2
      generalize L.getD k 0 = x at *
      generalize L.getD q 0 = y at *
      have HE := Lib.hid hkq
      have b1 : (0 : Int) ≤ (q : Int) := by omega
      have b2 : (q : Int) < (L.length : Int) := by omega
      have b3 : (k : Int) < (L.length : Int) := by omega
      have b4 : (0 : Int) ≤ (k : Int) := by omega
      have b5 : (k : Int) < (q : Int) := by omega
      have hkq4 : k + 1 + (q - 1) + 1 = L.length := by omega
      have HE2 := Lib.hid hkq4
      clear hkq hkq4
      go_wp2
      go_region
      all_goals
        go_wp2
        go_roundw
        case rel => exact ⟨k + 1, q - 1, by omega, HE2.out, by omega, by go_num, by congr 1; omega, (by first | exact HO2.out | exact HO3.out), (by first | exact (hon.setCell (p := ⟨ga, k, none⟩) hg1 hg2 _).setCell (p := ⟨ga, q, none⟩) hg1 hg2 _ | exact (hon.setCell (p := ⟨ga, q, none⟩) hg1 hg2 _).setCell (p := ⟨ga, k, none⟩) hg1 hg2 _ | exact ((hon.setCell (p := ⟨ga, k, none⟩) hg1 hg2 _).setCell (p := ⟨ga, q, none⟩) hg1 hg2 _).drew | exact ((hon.setCell (p := ⟨ga, q, none⟩) hg1 hg2 _).setCell (p := ⟨ga, k, none⟩) hg1 hg2 _).drew)⟩
        case measure => simp [intOf]; omega
    · have HRE := Lib.hid (revN_end L k (by omega) hk)
      have HO := Lib.hid ho
      clear ho hkq
      go_wp2
      go_end0
      exact ⟨rfl, by rw [← HRE.out]; exact HO.out, hon⟩
theorem bs_key (W : List Nat) (x y : Nat) : ((sc W y : Int) - (sc W x : Int) < 0 ↔ -(sc W x : Int) < -(sc W y : Int)) := by omega
theorem byScore_cmp (A : Option Addr) (c : Nat) (W : List Nat) (m : Nat) (w : World) (hT : IsT W) (hm : m ≤ w.heap.size) (h : Row w m A (ints (casts W))) (b : Nat) (hb : b < m) (k0 : w.cell? ⟨b, 0, none⟩ = some (.int .i64 (W.length : Int))) (k1 : w.cell? ⟨b, 1, none⟩ = some (.slice A W.length c)) :
    PredCmp 110 #[.pointer (some ⟨b, 0, none⟩)] (fun x y => (sc W y : Int) - (sc W x : Int)) m W.length w := by
  intro V x y hbV hx hy
  have g1 := hT.h1
  have g8 := hT.h8
  have c0 := (hbV.cell (p := ⟨b, 0, none⟩) hb).trans k0
  have c1 := (hbV.cell (p := ⟨b, 1, none⟩) hb).trans k1
  have HC := Lib.hid (fun a (ha : a < W.length) V' hr => score_any A c W a V' hT hr ha)
  have h := (h.below hbV (Nat.le_refl _)).mono (Nat.le_trans hm hbV.size)
  have hs := sc_le W x
  have hs2 := sc_le W y
  have hl := World.block_lt_of_cell? V _ c0
  have hbv : Below V.heap.size V V := Below.refl _ _
  have hw : IntKind.i64.wrap ((sc W y : Int) - (sc W x : Int)) = (sc W y : Int) - (sc W x : Int) := by rw [IntKind.wrap_i64]; omega
  clear k0 k1 hbV hb hm
  go_enter Try.func110, Try.ntmps110
  go_wp2
  go_region_held3 (fun w' => Below V.heap.size V w' ∧ w'.cell? ⟨b, 0, none⟩ = some (.int .i64 (W.length : Int)) ∧ w'.cell? ⟨b, 1, none⟩ = some (.slice A W.length c))
    (first | exact ⟨hbv, c0, c1⟩ | exact ⟨hbv.drew, c0, c1⟩)
    (first
      | (go_at_call 51; (with_reducible refine (HC.out x hx _ (h.rowAt (by first | exact hbv | exact hbv.drew) (Nat.le_refl _))).mono ?_); rintro e wq ⟨rfl, hbq⟩; obtain ⟨hbv, c0, c1⟩ : Below V.heap.size V wq ∧ wq.cell? ⟨b, 0, none⟩ = some (.int .i64 (W.length : Int)) ∧ wq.cell? ⟨b, 1, none⟩ = some (.slice A W.length c) := (by first | exact sf_next ⟨hbv, c0, c1⟩ hbq | exact sf_next ⟨hbv.drew, c0, c1⟩ hbq))
      | (go_at_call 51; (with_reducible refine (HC.out y hy _ (h.rowAt (by first | exact hbv | exact hbv.drew) (Nat.le_refl _))).mono ?_); rintro e wq ⟨rfl, hbq⟩; obtain ⟨hbv, c0, c1⟩ : Below V.heap.size V wq ∧ wq.cell? ⟨b, 0, none⟩ = some (.int .i64 (W.length : Int)) ∧ wq.cell? ⟨b, 1, none⟩ = some (.slice A W.length c) := (by first | exact sf_next ⟨hbv, c0, c1⟩ hbq | exact sf_next ⟨hbv.drew, c0, c1⟩ hbq)))
  all_goals
    go_wp2
    go_ret
    exact ⟨rfl, hbv⟩
theorem byScore_any (A : Option Addr) (c : Nat) (W : List Nat) (w : World) (hT : IsT W) (h : Row w w.heap.size A (ints (casts W))) :
    Calls Try.prog 84 #[.agg #[.int .i64 (W.length : Int), .slice A W.length c]] w fun e w' => ∃ (L : List Nat) (ga d : Nat), e = .returned (.slice (some ⟨ga, 0, none⟩) W.length d) ∧ ByScore W L ∧ Own w' w.heap.size w'.heap.size 3 (some ⟨ga, 0, none⟩) d (ints (casts L)) ∧ Below w.heap.size w w' := by
  have g1 := hT.h1
  have g8 := hT.h8
  go_enter Try.func84, Try.ntmps84
  go_wp2_with fail
  refine (indices_any W.length _ g8).mono ?_
  rintro e w2 ⟨B, d, rfl, ho, hb2⟩
  obtain ⟨k0, k1, hbw, hsz⟩ := box1 hb2
  have hup : (casts (upTo W.length)).length = W.length := by rw [casts_length, upTo_length]
  rw [hup]
  obtain ⟨ga, rfl, -⟩ := ho.int (k := 0) (by rw [hup]; omega)
  have hw2 : w.heap.size + 1 ≤ w2.heap.size := hsz
  have hsA : (w.alloc (.cells #[.int .i64 (W.length : Int), .slice A W.length c] 26)).heap.size = w.heap.size + 1 := by simp
  rw [hsA] at ho
  have hp := byScore_cmp A c W (w.heap.size + 1) w2 hT hw2 ((h.below hbw (Nat.le_refl _)).mono (Nat.le_succ _)) w.heap.size (Nat.lt_succ_self _) k0 k1
  have hul : (upTo W.length).length = W.length := upTo_length _
  have HS := sortStable_any 110 #[.pointer (some ⟨w.heap.size, 0, none⟩)] (enters_of Try.func110 (by kernel_rfl) rfl) (fun x y => (sc W y : Int) - (sc W x : Int)) (fun x => -(sc W x : Int)) (w.heap.size + 1) W.length ga d (w.heap.size + 1) w2.heap.size (upTo W.length) w2
    hp (fun x y _ _ => bs_key W x y) (fun x hx => by simpa [upTo] using hx) ho (Nat.le_refl _) (Nat.le_refl _) (by rw [hul]; exact g1) (by rw [hul]; omega)
  rw [hul] at HS
  have HS := Lib.hid HS
  clear hp ho hb2 hup hul
  go_wp2_with fail
  refine HS.out.mono ?_
  rintro e w3 ⟨rfl, L, h1, h2, h3, h4⟩
  have hul : (upTo W.length).length = W.length := upTo_length _
  rw [hul] at h2
  have hz := h4.size
  have HR := Lib.hid (show ByScore W L from ⟨h1, fun i j hij hj => by have := h2 i j hij hj; simp only at this; omega⟩)
  have HO := Lib.hid (h3.mono (Nat.le_succ w.heap.size) hz)
  have hbX := hbw.trans ((h4.below (B := w.heap.size) (Nat.le_succ _) (by omega)))
  clear h1 h2 h3 h4 hul
  go_wp2
  go_ret
  exact ⟨L, ga, d, rfl, HR.out, HO.out, hbX⟩
end Go.Proofs.Ytaocjjocncoahaa
