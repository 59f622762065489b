/- FirstFullWay, the program's: wayOn, walked. -/
import Derived.Test.YtkdfjkocfejfjaaFirstP
import Derived.Test.YtkdfjkocfejfjaaPackA
import Derived.Test.YtkdfjkocfejfjaaFlip
import Derived.Deep.RegionLawGrows
namespace Go.Proofs.Ytkdfjkocfejfjaa
open Go.RowKit

/-- append(list, x) where the list is used on behind it, as a step of a region that draws its order. -/
theorem step_pushKeep {ops : Array Oper} {o : Oper} {a : Act} {w : World} {K : Act → World → Prop} {Q : Exit → Act → World → Prop} {E : Prop} (hgd : o.guard = none) (s x : Operand)
    (ho : o.op = .call { callee := .builtin .append, args := #[s, x], argTypes := #[22, 22] })
    (lo hi : Nat) (A : Option Addr) (c n : Nat) (zs : List Int) (z : Int) (g : Nat) (hs : a.eval s = .slice A n c) (hx : a.eval x = .slice (some ⟨g, 0, none⟩) 1 1)
    (hn : n = zs.length) (hown : Own w lo hi 3 A c (ints zs)) (hcell : w.cell? ⟨g, 0, none⟩ = some (.int .i64 z)) (hl : n ≤ 1099511627776) (hlo : lo ≤ w.heap.size) (hhi : hi ≤ w.heap.size)
    (h : ∀ A' c' w', Own w' lo w'.heap.size 3 A' c' (ints (zs ++ [z])) → Own w' lo hi 3 A c (ints zs) → KeepBut A w w' → ((A' = A ∧ c' = c) ∨ ∃ q, A' = some ⟨q, 0, none⟩ ∧ w.heap.size ≤ q) →
      K (a.put o.dst (.slice A' (n + 1) c')) w') : if Region.wanted o (yielded ops a.tmps) = true then Oper.wp Try.prog o a w K Q else E := by
  subst hn
  obtain ⟨i0, hi0, hz0, hz1, hz2⟩ := info_parts int_info
  have hcap := hown.cap
  rw [ints_length] at hcap
  have hgrown : ∀ v' w', w'.ownsRow w.heap.size 3 1 v' (zs.length + 1) (ints zs ++ [Value.int .i64 z]) → w.grownBy w' none → K (a.put o.dst v') w' := by
    intro v' w' h1 h2
    obtain ⟨A', c', rfl, hlen, ho'⟩ := own_of_ownsRow h1
    have e : (ints zs ++ [Value.int .i64 z]).length = zs.length + 1 := by simp [ints]
    rw [e]
    have hfr : ∃ q, A' = some ⟨q, 0, none⟩ ∧ w.heap.size ≤ q := by
      rcases ho' with ⟨_, h5, _⟩ | ⟨q, cur, e5, h6, _⟩
      · simp at h5
      · exact ⟨q, e5, h6⟩
    refine h A' c' w' (by simpa [ints] using ho'.mono hlo (Nat.le_refl _)) (hown.keep fun b h3 h4 => h2.block b (by omega) (by simp)) ⟨h2.os, h2.tape, h2.output, h2.size, fun b hb _ => h2.block b hb (by simp)⟩ (.inr hfr)
  by_cases hr : zs.length + 1 ≤ c
  · rcases hown with ⟨h1, h2, h3⟩ | ⟨b, cur, rfl, h5, h6, hh, h7, h8, h9, h10⟩
    · omega
    · refine step_append_room hgd s x _ ho 3 i0 1 Try.underlying22 hi0 hz1 b 0 zs.length c hs ⟨g, 0, none⟩ 1 1 [.int .i64 z] hx rfl ?_ ?_ ?_ ?_ ?_
      · intro j u hu
        match j, hu with
        | 0, hu =>
          simp at hu
          subst hu
          exact hcell
        | j + 1, hu => simp at hu
      · intro u hu
        simp at hu
        subst hu
        rfl
      · exact hr
      · intro j hj
        have hj0 : j = 0 := by simpa using hj
        subst hj0
        constructor
        · rw [cell_of_row w b _ cur 3 (0, 0) hh, Array.getElem?_eq_getElem (by omega)]
          rfl
        · simp [World.frozen?, hh]
      · have e0 : w.setCells b (0 + zs.length * 1) [.int .i64 z] = w.setCell ⟨b, zs.length, none⟩ (.int .i64 z) := by
          rw [Nat.zero_add, Nat.mul_one]
          rfl
        rw [e0]
        have hh' := heap_setCell_same w b zs.length cur 3 (.int .i64 z) hh
        have hlen : (ints zs).length = zs.length := ints_length zs
        refine h _ c _ (.inr ⟨b, cur.setIfInBounds zs.length (.int .i64 z), rfl, h5, by simp; omega, hh', by simp [ints]; omega, h8, by simpa using h9, ?_⟩) (.inr ⟨b, cur.setIfInBounds zs.length (.int .i64 z), rfl, h5, h6, hh', h7, h8, by simpa using h9, ?_⟩) ⟨rfl, rfl, rfl, by simp, fun q hq hne => Below.heap_setCell w _ _ q (by intro e; subst e; exact hne rfl)⟩ (.inl ⟨rfl, rfl⟩)
        · rw [Array.toList_setIfInBounds]
          have e1 : ints (zs ++ [z]) = ints zs ++ [.int .i64 z] := by simp [ints]
          rw [e1, List.length_append, List.length_singleton, hlen]
          rw [hlen] at h10
          have hcl : zs.length < cur.toList.length := by simp; omega
          rw [List.take_succ_eq_append_getElem (by simpa using hcl), List.take_set_of_le (Nat.le_refl _), h10]
          simp
        · rw [Array.toList_setIfInBounds, hlen, List.take_set_of_le (Nat.le_refl _)]
          rwa [hlen] at h10
  · have hfull : c = zs.length := by omega
    refine step_append_grows hgd s x _ ho 3 i0 _ 1 8 Try.underlying22 hi0 hz0 hz1 hz2 rfl (by decide) A zs.length c (ints zs) hs (fun e => ?_) (by simp [ints]) (fun b e j u hu => ?_) ⟨g, 0, none⟩ 1 1 [.int .i64 z] hx rfl ?_ ?_ (by omega) (by unfold maxLen; omega) (by omega) hgrown
    · rcases hown with ⟨_, h2, h3⟩ | ⟨b, cur, e2, _⟩
      · have : zs = [] := by simpa [ints] using h2
        subst this
        exact ⟨rfl, h3⟩
      · rw [e] at e2; cases e2
    · have hrow := hown.row
      obtain ⟨b2, off2, e2, _, hc2⟩ := hrow (by have := (List.getElem?_eq_some_iff.1 hu).1; omega)
      rw [e] at e2
      simp only [Option.some.injEq] at e2
      subst e2
      have e3 : (⟨b2, off2, none⟩ : Addr).add j = ⟨b2, off2 + j, none⟩ := by unfold Addr.add; split <;> simp_all
      rw [e3]
      exact hc2 j u hu
    · intro j u hu
      match j, hu with
      | 0, hu =>
        simp at hu
        subst hu
        exact hcell
      | j + 1, hu => simp at hu
    · intro u hu
      simp at hu
      subst hu
      rfl

theorem KeepBut.cellB {w w' : World} {g : Nat} (h : KeepBut (some ⟨g, 0, Option.none⟩) w w') {p : Addr} (hp : p.block < w.heap.size) (hne : p.block ≠ g) : w'.cell? p = w.cell? p := by
  have := h.block p.block hp (by intro e; simp only [Option.some.injEq, Addr.mk.injEq, and_true] at e; exact hne e.symm)
  unfold World.cell?
  rw [this]
theorem Row.keepB {w w' : World} {g lo : Nat} {A : Option Addr} {vs : List Value} (hr : Row w lo A vs) (h : KeepBut (some ⟨g, 0, none⟩) w w') (hlo : lo ≤ w.heap.size) (hg : lo ≤ g) : Row w' lo A vs :=
  hr.keep fun p hp => h.cellB (by omega) (by omega)
theorem KeepBut.undrew {A : Option Addr} {w w' : World} (h : KeepBut A w.drew w') : KeepBut A w w' := ⟨h.os, h.tape, h.output, h.size, h.block⟩
/-- What wayOn leaves: the way as it was, the list that was found. -/
def WOPost (w : World) (lo : Nat) (B : Option Addr) (d : Nat) (way : List Int) (r : Option (List Nat)) (e : Ending) (w' : World) : Prop :=
  Own w' lo w'.heap.size 3 B d (ints way) ∧ KeepBut B w w' ∧ match r with
    | none => e = .returned (.slice none 0 0)
    | some l => ∃ g c, e = .returned (.slice (some ⟨g, 0, none⟩) l.length c) ∧ Own w' w.heap.size w'.heap.size 3 (some ⟨g, 0, none⟩) c (ints (casts l))
theorem wo_step {lo hi : Nat} {A A' : Option Addr} {c c' : Nat} {w wr1 w4 w5 : World} {zs : List Int} {z : Int} (h0 : KeepBut A w wr1) (hhi : hi ≤ wr1.heap.size) (hoA : Own w4 lo hi 3 A c (ints zs)) (hk : KeepBut A wr1 w4)
    (hd : (A' = A ∧ c' = c) ∨ ∃ q, A' = some ⟨q, 0, none⟩ ∧ wr1.heap.size ≤ q) (ho5 : Own w5 lo w5.heap.size 3 A' c' (ints (zs ++ [z]))) (hk5 : KeepBut A' w4 w5) : Own w5 lo w5.heap.size 3 A c (ints zs) ∧ KeepBut A w w5 := by
  have s1 := hk.size
  have s2 := hk5.size
  rcases hd with ⟨rfl, rfl⟩ | ⟨q, rfl, hq⟩
  · refine ⟨own_head (ys := [.int .i64 z]) (by simpa [ints] using ho5), (h0.trans hk).trans hk5⟩
  · refine ⟨(hoA.keep fun b h3 h4 => hk5.block b (by omega) (by intro e; simp only [Option.some.injEq, Addr.mk.injEq, and_true] at e; omega)).mono (Nat.le_refl _) (by omega), KeepBut.fresh hk5 (h0.trans hk) ⟨q, rfl, Nat.le_trans h0.size hq⟩⟩
theorem wo_far {A' : Option Addr} {c' g n c b : Nat} {wr1 w4 w5 : World} (hd : (A' = some ⟨g, 0, none⟩ ∧ c' = c) ∨ ∃ q, A' = some ⟨q, 0, none⟩ ∧ wr1.heap.size ≤ q) (hk5 : KeepBut A' w4 w5) (hb : b < w4.heap.size) (hg : b ≠ g) (hr : b < wr1.heap.size) : w5.cell? ⟨b, n, none⟩ = w4.cell? ⟨b, n, none⟩ := by
  rcases hd with ⟨rfl, _⟩ | ⟨q, rfl, hq⟩
  · exact hk5.cellB hb hg
  · exact hk5.cellB hb (by show b ≠ q; omega)
theorem sT_casts (way : List Nat) (b : Nat) : sT (casts (way ++ [b])) = sT (casts way) ||| 2 ^ b := by
  rw [casts_append]
  exact sT_snoc _ _
theorem way_small {way : List Nat} (h : ∀ x ∈ way, x < 8) : ∀ z ∈ casts way, 0 ≤ z ∧ z < 8 := by
  intro z hz
  unfold casts at hz
  obtain ⟨x, hx, rfl⟩ := List.mem_map.1 hz
  have := h x hx
  omega
theorem own_some {w : World} {lo hi c : Nat} {t : TypeId} {B : Option Addr} {vs : List Value} (h : Own w lo hi t B c vs) (hn : vs ≠ []) : ∃ g, B = some ⟨g, 0, none⟩ ∧ lo ≤ g ∧ g < hi := by
  rcases own_block h with e | e
  · rcases h with ⟨_, h2, _⟩ | ⟨g, cur, e2, _⟩
    · exact absurd h2 hn
    · rw [e] at e2; cases e2
  · exact e
theorem wanted_any (A : Option Addr) (n c : Nat) (w : World) : Calls Try.prog 63 #[.slice A n c] w fun e w' => e = .returned (.bool true) ∧ w = w' := by
  go_enter Try.func63, Try.ntmps63
  go_wp2
  go_ret
  exact ⟨rfl, rfl⟩
set_option maxHeartbeats 2000000 in
set_option maxRecDepth 20000 in
theorem wayOn_any (A : Option Addr) (c : Nat) (W : List Nat) (hT : IsT W) (f : Nat) : ∀ (way : List Nat) (a left : Nat) (B : Option Addr) (d k lo : Nat) (w : World), k = way.length → k + f = W.length → way.getLast? = some a → (∀ x ∈ way, x < W.length) → left < 2 ^ W.length → pc 8 left = f →
    sT (casts way) = 2 ^ W.length - 1 - left → Row w lo A (ints (casts W)) → lo ≤ w.heap.size → Own w lo w.heap.size 3 B d (ints (casts way)) →
    Calls Try.prog 62 #[.agg #[.int .i64 (W.length : Int), .slice A W.length c], .slice B k d, .int .i64 (W.length : Int), .func (.func 63) #[] #[]] w (WOPost w lo B d (casts way) (fW W f a left way)) := by
  have g1 := hT.h1
  have g8 := hT.h8
  have eg := enters_of Try.func63 (by kernel_rfl) rfl
  induction f with
  | zero =>
    intro way a left B d k lo w hk hkf hlast hway hl hf hset h hlo hown
    have e0 : ((k : Int) == (W.length : Int)) = true := by simp; omega
    have hne : ints (casts way) ≠ [] := by
      intro e
      have h2 := ints_length (casts way)
      rw [e, casts_length] at h2
      simp at h2
      omega
    obtain ⟨g, rfl, hg1, hg2⟩ := own_some hown hne
    have HC := Lib.hid (fun W' hr => cloneW_any (some ⟨g, 0, none⟩) d way W' hr (by omega) (by omega))
    rw [← hk] at HC
    have HF : Hid (fW W 0 a left way = some way) := Lib.hid rfl
    have HK := Lib.hid hk
    have HO := Lib.hid hown
    have hk1 : 1 ≤ k := by omega
    clear hk hkf hlast hway hl hf hset h hown hne
    go_enter Try.func62, Try.ntmps62
    go_wp2_with fail
    refine (wanted_any _ _ _ _).mono ?_
    rintro e w' ⟨rfl, rfl⟩
    go_wp2_with fail
    refine (HC.out _ (HO.out.row.rowAt (by go_grown) (Nat.le_refl _))).mono ?_
    rintro e w2 ⟨G, d2, rfl, ho, hb⟩
    have hbw : Below w.heap.size w w2 := Below.trans (by go_grown) (hb.mono (by simp))
    obtain ⟨g2, rfl, hq1, hq2⟩ := own_some ho (by
      intro e
      have h2 := ints_length (casts way)
      rw [e, casts_length, ← HK.out] at h2
      simp at h2
      omega)
    go_wp2
    go_ret
    refine ⟨(HO.out.below hbw (Nat.le_refl _)).mono (Nat.le_refl _) hbw.size, KeepBut.of_below hbw, ?_⟩
    rw [HF.out]
    exact ⟨g2, d2, ret_slice (by rw [casts_length]), ho.mono (by simp) (Nat.le_refl _)⟩
  | succ f ih =>
    intro way a left B d k lo w hk hkf hlast hway hl hf hset h hlo hown
    have h256 : left < 256 := Nat.lt_of_lt_of_le hl (pow_le8 _ g8)
    have hne : way ≠ [] := by intro e; rw [e] at hlast; cases hlast
    have hk1 : 1 ≤ k := by have := List.length_pos_iff.2 hne; omega
    obtain ⟨k', rfl⟩ : ∃ k', k = k' + 1 := ⟨k - 1, by omega⟩
    have e0 : (((k' + 1 : Nat) : Int) == (W.length : Int)) = false := by rw [beq_eq_false_iff_ne]; omega
    have e0' : ((k' : Int) + 1 == (W.length : Int)) = false := by rw [beq_eq_false_iff_ne]; omega
    have hne2 : ints (casts way) ≠ [] := by
      intro e
      have h2 := ints_length (casts way)
      rw [e, casts_length] at h2
      simp at h2
      omega
    obtain ⟨g, rfl, hg1, hg2⟩ := own_some hown hne2
    have ha : a < W.length := hway a (List.mem_of_getLast? hlast)
    have hlastk : way[k']'(by omega) = a := by
      rw [List.getLast?_eq_getElem?] at hlast
      rw [← hk] at hlast
      rw [List.getElem?_eq_getElem (by omega)] at hlast
      exact Option.some.inj hlast
    obtain ⟨g', eg', _, _, hcl, _⟩ := hown.nat (k := k') (by omega)
    simp only [Option.some.injEq, Addr.mk.injEq, and_true] at eg'
    subst eg'
    rw [hlastk] at hcl
    obtain ⟨bW, oW, rfl, hbW, hcW⟩ := h.nat ha
    have hwa := hT.lt' ha
    have E1 := andNot_compl W.length W[a] left g8 hwa hl
    have HG : Hid (W.getD a 0 = W[a]) := Lib.hid (getD_lt _ _ _ ha)
    have hand : W[a] &&& left < 256 := Nat.lt_of_le_of_lt Nat.and_le_right h256
    have HW : Hid (fW W (f + 1) a left way = (mem 8 (W[a] &&& left)).findSome? fun b => fW W f b (left - 2 ^ b) (way ++ [b])) := Lib.hid (by rw [fW, HG.out])
    have HS := Lib.hid (fun b hb => left_step W hT a left f b hl hf hb)
    rw [HG.out] at HS
    have HSW := Lib.hid (fun b (hb : b < W.length) (ht : left.testBit b = true) => compl_or W.length left b g8 hl hb ht)
    have HSET := Lib.hid hset
    have HWAY := Lib.hid hway
    have HK := Lib.hid hk
    have HO := Lib.hid hown
    have HR := Lib.hid h
    have HSO := Lib.hid (fun W' (hr : Row W' W'.heap.size (some ⟨g, 0, none⟩) (ints (casts way))) => (by
      have hx := setOf_any (some ⟨g, 0, none⟩) d (casts way) W' hr (way_small (fun x hx => by have := hway x hx; omega)) (by rw [casts_length]; omega)
      rw [casts_length, hset, ← hk] at hx
      exact hx : Calls Try.prog 86 #[.slice (some ⟨g, 0, none⟩) (k' + 1) d] W' fun e w' => e = .returned (.int .i64 ((2 ^ W.length - 1 - left : Nat) : Int)) ∧ Below W'.heap.size W' w'))
    have HMO := Lib.hid (fun W' => membersOf_any ((W[a] &&& left : Nat) : Int) W' (by omega) (by omega))
    rw [Int.toNat_natCast] at HMO
    have t2 : (0 : Int) ≤ (k' : Int) := by omega
    have t3 : (k' : Int) < (k' : Int) + 1 := by omega
    have t6 : k' < 8 := by omega
    have t7 : IntKind.i64.wrap (k' : Int) = (k' : Int) := by rw [IntKind.wrap_i64]; omega
    have t8 : IntKind.i64.wrap ((k' : Int) + 1 - 1) = (k' : Int) := by rw [IntKind.wrap_i64]; omega
    have t4 : (0 : Int) ≤ (a : Int) := by omega
    have t5 : (a : Int) < (W.length : Int) := by omega
    have hkf' : k' + 1 + 1 + f = W.length := by omega
    clear hk hkf hlast hway hl hf hset h hown hne hne2 hlastk HG hwa
    go_enter Try.func62, Try.ntmps62
    go_wp2
    obtain ⟨w1, hw1⟩ : ∃ w1, w1 = w.alloc (.cells #[.int .i64 (W.length : Int), .slice (some ⟨bW, oW, none⟩) W.length c] 27) := ⟨_, rfl⟩
    rw [← hw1]
    have k0 : w1.cell? ⟨w.heap.size, 0, none⟩ = some (.int .i64 (W.length : Int)) := by rw [hw1]; go_simp
    have k1 : w1.cell? ⟨w.heap.size, 1, none⟩ = some (.slice (some ⟨bW, oW, none⟩) W.length c) := by rw [hw1]; go_simp
    have hbw : Below w.heap.size w w1 := by rw [hw1]; go_grown
    have hsz : w1.heap.size = w.heap.size + 1 := by rw [hw1]; simp
    have HSZ := Lib.hid hsz
    have hszl : w.heap.size + 1 ≤ w1.heap.size := by omega
    have x0 : w1.cell? ⟨g, k', none⟩ = some (.int .i64 (a : Int)) := (hbw.cell (p := ⟨g, k', none⟩) hg2).trans hcl
    have x1 : w1.cell? ⟨bW, oW + a, none⟩ = some (.int .i64 (W[a] : Nat)) := (hbw.cell (p := ⟨bW, oW + a, none⟩) (by show bW < _; omega)).trans hcW
    have HKK := Lib.hid (fun W' (hW : Below w1.heap.size w1 W') => (⟨hW, (hW.cell (p := ⟨w.heap.size, 0, none⟩) (by show w.heap.size < _; omega)).trans k0, (hW.cell (p := ⟨w.heap.size, 1, none⟩) (by show w.heap.size < _; omega)).trans k1, (hW.cell (p := ⟨g, k', none⟩) (by show g < _; omega)).trans x0, (hW.cell (p := ⟨bW, oW + a, none⟩) (by show bW < _; omega)).trans x1⟩ :
      Below w1.heap.size w1 W' ∧ W'.cell? ⟨w.heap.size, 0, none⟩ = some (.int .i64 (W.length : Int)) ∧ W'.cell? ⟨w.heap.size, 1, none⟩ = some (.slice (some ⟨bW, oW, none⟩) W.length c) ∧ W'.cell? ⟨g, k', none⟩ = some (.int .i64 (a : Int)) ∧ W'.cell? ⟨bW, oW + a, none⟩ = some (.int .i64 (W[a] : Nat))))
    have hbb : Below w1.heap.size w1 w1 := Below.refl _ _
    have HRW := Lib.hid (HO.out.row.rowAt hbw (Nat.le_refl _))
    clear hw1 hsz hcl hcW
    generalize 2 ^ W.length - 1 - left = mm at *
    generalize hxx : W[a] &&& left = x at *
    have HXX := Lib.hid hxx
    clear hxx
    generalize W[a] = wa at *
    go_region_held3 (fun w' => Below w1.heap.size w1 w' ∧ w'.cell? ⟨w.heap.size, 0, none⟩ = some (.int .i64 (W.length : Int)) ∧ w'.cell? ⟨w.heap.size, 1, none⟩ = some (.slice (some ⟨bW, oW, none⟩) W.length c) ∧ w'.cell? ⟨g, k', none⟩ = some (.int .i64 (a : Int)) ∧ w'.cell? ⟨bW, oW + a, none⟩ = some (.int .i64 (wa : Nat)))
      ((refine HKK.out _ ?_; go_grown))
      (first
        | (go_at_call 86; refine (HSO.out _ (HRW.out.rowAt (by go_grown) (Nat.le_refl _))).mono ?_; rintro e wq ⟨rfl, hbq⟩; have hbb : Below w1.heap.size w1 wq := Below.trans (by go_grown) (hbq.mono (by simp)); have hzq := hbb.size)
        | (go_at_call 88; refine (HMO.out _).mono ?_; rintro e wm ⟨M, dM, rfl, hoM, hbm⟩; have hbb : Below w1.heap.size w1 wm := Below.trans (by go_grown) (hbm.mono (by first | exact hbb.size | simp | (simp; exact hbb.size)))))
    rw [casts_length]
    obtain ⟨-, k0, k1, -, -⟩ := HKK.out wm hbb
    have hms : Own wm w1.heap.size wm.heap.size 3 M dM (ints (casts (mem 8 x))) := hoM.mono hzq (Nat.le_refl _)
    have hml : (mem 8 x).length ≤ 8 := by rw [mem_length]; exact pc_le 8 _
    have hbbs := hbb.size
    have HM := Lib.hid hms
    have hbwm := below_trans hbw hbb
    have HRM := Lib.hid (HR.out.below hbwm hlo)
    have HOM := Lib.hid ((HO.out.below hbwm (Nat.le_refl _)))
    have hgm : g < wm.heap.size := by omega
    have HSX := HS
    have HFX := HW
    have hnilF := fun (WW : World) => run_neq_slice_nil_any (P := Try.prog) WW 22 3 none 0 0 0 0 Try.underlying22
    have hnilT := fun (WW : World) (q n e : Nat) => run_neq_slice_nil_any (P := Try.prog) WW 22 3 (some ⟨q, 0, none⟩) n e 0 0 Try.underlying22
    have IH := Lib.hid ih
    have HKF := Lib.hid hkf'
    clear hkf' e0 e0' t2 t3 t4 t5 t7 t8
    clear ih hoM hbm hms HS HW E1 x0 x1 HKK HRW HMO HSO hbb hzq
    generalize mem 8 x = ms at *
    go_wp2
    go_loopw [36] (fun i wr => ∃ (j : Nat), j ≤ ms.length ∧ i = .int .i64 (j : Int) ∧ Hid (∀ i (hi : i < ms.length), i < j → fW W f ms[i] (left - 2 ^ ms[i]) (way ++ [ms[i]]) = none) ∧ Own wr lo wr.heap.size 3 (some ⟨g, 0, none⟩) d (ints (casts way)) ∧ KeepBut (some ⟨g, 0, none⟩) wm wr) (fun i _ => ms.length - (intOf i).toNat)
    case atStart => exact ⟨0, Nat.zero_le _, rfl, Lib.hid (fun i _ hi => absurd hi (Nat.not_lt_zero _)), HOM.out.mono (Nat.le_refl _) (by omega), KeepBut.refl _ _⟩
    case round =>
      obtain ⟨j, hj, rfl, HN, ho, hkb⟩ := hrel
      have HOR := Lib.hid ho
      have HKB := Lib.hid hkb
      have hwr := hkb.size
      clear ho
      have c0 : wr.cell? ⟨w.heap.size, 0, none⟩ = some (.int .i64 (W.length : Int)) := (hkb.cellB (p := ⟨w.heap.size, 0, none⟩) (by show w.heap.size < _; omega) (by show w.heap.size ≠ g; omega)).trans k0
      have c1 : wr.cell? ⟨w.heap.size, 1, none⟩ = some (.slice (some ⟨bW, oW, none⟩) W.length c) := (hkb.cellB (p := ⟨w.heap.size, 1, none⟩) (by show w.heap.size < _; omega) (by show w.heap.size ≠ g; omega)).trans k1
      have HRR := Lib.hid (HRM.out.keepB hkb (by omega) hg1)
      by_cases hlt : j < ms.length
      · obtain ⟨bM, eM, hbM1, hbM2, hcM, _⟩ := HM.out.nat hlt
        subst eM
        replace hcM := (hkb.cellB (p := ⟨bM, j, none⟩) hbM2 (by show bM ≠ g; omega)).trans hcM
        obtain ⟨s1, s2, s3, s4⟩ := HSX.out ms[j] (List.getElem_mem hlt)
        have HNX := Lib.hid (fun (hq : fW W f ms[j] (left - 2 ^ ms[j]) (way ++ [ms[j]]) = none) => (Lib.hid (fun i hi hij => by
          by_cases e : i = j
          · subst e; exact hq
          · exact HN.out i hi (by omega)) : Hid (∀ i (hi : i < ms.length), i < j + 1 → fW W f ms[i] (left - 2 ^ ms[i]) (way ++ [ms[i]]) = none)))
        have HHIT := Lib.hid (fun (l : List Nat) (hq : fW W f ms[j] (left - 2 ^ ms[j]) (way ++ [ms[j]]) = some l) => (by
          rw [HFX.out]
          rw [List.findSome?_eq_some_iff]
          refine ⟨ms.take j, ms[j], ms.drop (j + 1), ?_, hq, ?_⟩
          · rw [← List.drop_eq_getElem_cons hlt, List.take_append_drop]
          · intro y hy
            obtain ⟨i, hi, rfl⟩ := List.mem_iff_getElem.1 hy
            rw [List.getElem_take]
            rw [List.length_take] at hi
            exact HN.out i (by omega) (by omega) : fW W (f + 1) a left way = some l))
        generalize ms[j] = b at *
        have HO2 := Lib.hid (HSW.out b s1 s4)
        have HCL := Lib.hid (fun A4 c4 w4 hr hl4 ho4 => IH.out (way ++ [b]) b (left - 2 ^ b) A4 c4 (k' + 1 + 1) lo w4 (by rw [List.length_append, ← HK.out]; rfl) HKF.out (by simp) (fun y hy => by
          rcases List.mem_append.1 hy with h | h
          · exact HWAY.out y h
          · rw [List.mem_singleton] at h; omega) s2 s3 (by rw [sT_casts, HSET.out, HO2.out]) hr hl4 ho4)
        have HLEN : Hid (k' + 1 = (casts way).length) := Lib.hid (by rw [casts_length]; exact HK.out)
        have HCS : Hid (casts (way ++ [b]) = casts way ++ [(b : Int)]) := Lib.hid (casts_append way [b])
        rw [HCS.out] at HCL
        clear s2 s3 s4
        have a0 : (wr.alloc (.cells #[.int .i64 (b : Int)] 3)).drew.cell? ⟨w.heap.size, 0, none⟩ = some (.int .i64 (W.length : Int)) := (World.cell?_alloc_lt wr _ ⟨w.heap.size, 0, none⟩ (by show w.heap.size < _; omega)).trans c0
        have a1 : (wr.alloc (.cells #[.int .i64 (b : Int)] 3)).drew.cell? ⟨w.heap.size, 1, none⟩ = some (.slice (some ⟨bW, oW, none⟩) W.length c) := (World.cell?_alloc_lt wr _ ⟨w.heap.size, 1, none⟩ (by show w.heap.size < _; omega)).trans c1
        cases hq : fW W f b (left - 2 ^ b) (way ++ [b]) with
        | none =>
          have HQ := Lib.hid hq
          have HN2 := HNX.out hq
          rw [hq] at HCL
          clear hq HNX HHIT hkb
          go_wp2
          go_region_held3 (fun w' => w'.cell? ⟨w.heap.size, 0, none⟩ = some (.int .i64 (W.length : Int)) ∧ w'.cell? ⟨w.heap.size, 1, none⟩ = some (.slice (some ⟨bW, oW, none⟩) W.length c))
            (first | exact ⟨c0, c1⟩ | exact ⟨d0, d1⟩ | exact ⟨a0, a1⟩)
            (first
              | (refine step_pushKeep (by rfl) (.tmp 41) (.tmp 43) (by rfl) lo wr.heap.size (some ⟨g, 0, none⟩) d (k' + 1) (casts way) (b : Int) wr.heap.size (by rfl) (by rfl) HLEN.out ((HOR.out.alloc (Nat.le_refl _) _).drew) (by go_simp) (by omega) (by simp; omega) (by simp) ?_; intro A4 c4 w4 ho4 hoA hk4 hd4; have d0 := (hk4.cellB (p := ⟨w.heap.size, 0, none⟩) (by simp; omega) (by show w.heap.size ≠ g; omega)).trans a0; have d1 := (hk4.cellB (p := ⟨w.heap.size, 1, none⟩) (by simp; omega) (by show w.heap.size ≠ g; omega)).trans a1; have HR4 := Lib.hid (((HRR.out.alloc (by omega) _).drew).keepB hk4 (by simp; omega) hg1); have hs4 := hk4.size; simp only [World.size_alloc, World.size_drew] at hs4)
              | (go_at_call 62; refine (HCL.out A4 c4 w4 HR4.out (by omega) ho4).mono ?_; rintro e w5 ⟨ho5, hk5, rfl⟩; obtain ⟨d0, d1⟩ : w5.cell? ⟨w.heap.size, 0, none⟩ = some (.int .i64 (W.length : Int)) ∧ w5.cell? ⟨w.heap.size, 1, none⟩ = some (.slice (some ⟨bW, oW, none⟩) W.length c) := ⟨(wo_far hd4 hk5 (by omega) (by omega) (by simp; omega)).trans d0, (wo_far hd4 hk5 (by omega) (by omega) (by simp; omega)).trans d1⟩))
          obtain ⟨ho6, hk6⟩ := wo_step (HKB.out.trans (KeepBut.of_below (((Below.refl wr.heap.size wr).alloc (Nat.le_refl _) (.cells #[.int .i64 (b : Int)] 3)).drew))) (by simp) hoA hk4 hd4 ho5 hk5
          go_wp2
          go_roundw
          case rel => exact ⟨j + 1, by omega, by go_num, HN2, ho6, hk6⟩
          case measure => simp [intOf]; omega
        | some l =>
          have HQ := Lib.hid hq
          have HF2 := Lib.hid (HHIT.out l hq)
          rw [hq] at HCL
          clear hq HNX HHIT hkb
          go_wp2
          go_region_held3 (fun w' => w'.cell? ⟨w.heap.size, 0, none⟩ = some (.int .i64 (W.length : Int)) ∧ w'.cell? ⟨w.heap.size, 1, none⟩ = some (.slice (some ⟨bW, oW, none⟩) W.length c))
            (first | exact ⟨c0, c1⟩ | exact ⟨d0, d1⟩ | exact ⟨a0, a1⟩)
            (first
              | (refine step_pushKeep (by rfl) (.tmp 41) (.tmp 43) (by rfl) lo wr.heap.size (some ⟨g, 0, none⟩) d (k' + 1) (casts way) (b : Int) wr.heap.size (by rfl) (by rfl) HLEN.out ((HOR.out.alloc (Nat.le_refl _) _).drew) (by go_simp) (by omega) (by simp; omega) (by simp) ?_; intro A4 c4 w4 ho4 hoA hk4 hd4; have d0 := (hk4.cellB (p := ⟨w.heap.size, 0, none⟩) (by simp; omega) (by show w.heap.size ≠ g; omega)).trans a0; have d1 := (hk4.cellB (p := ⟨w.heap.size, 1, none⟩) (by simp; omega) (by show w.heap.size ≠ g; omega)).trans a1; have HR4 := Lib.hid (((HRR.out.alloc (by omega) _).drew).keepB hk4 (by simp; omega) hg1); have hs4 := hk4.size; simp only [World.size_alloc, World.size_drew] at hs4)
              | (go_at_call 62; refine (HCL.out A4 c4 w4 HR4.out (by omega) ho4).mono ?_; rintro e w5 ⟨ho5, hk5, g5, c5, rfl, hor5⟩; obtain ⟨d0, d1⟩ : w5.cell? ⟨w.heap.size, 0, none⟩ = some (.int .i64 (W.length : Int)) ∧ w5.cell? ⟨w.heap.size, 1, none⟩ = some (.slice (some ⟨bW, oW, none⟩) W.length c) := ⟨(wo_far hd4 hk5 (by omega) (by omega) (by simp; omega)).trans d0, (wo_far hd4 hk5 (by omega) (by omega) (by simp; omega)).trans d1⟩))
          obtain ⟨ho6, hk6⟩ := wo_step (HKB.out.trans (KeepBut.of_below (((Below.refl wr.heap.size wr).alloc (Nat.le_refl _) (.cells #[.int .i64 (b : Int)] 3)).drew))) (by simp) hoA hk4 hd4 ho5 hk5
          have HO9 := Lib.hid (hor5.mono (show w.heap.size ≤ w4.heap.size by omega) (Nat.le_refl _))
          clear hor5
          go_wp2
          go_ret
          refine ⟨ho6, (KeepBut.of_below hbwm).trans hk6, ?_⟩
          rw [HF2.out]
          exact ⟨g5, c5, rfl, HO9.out⟩
      · obtain rfl : j = ms.length := by omega
        have HF2 : Hid (fW W (f + 1) a left way = none) := Lib.hid (by
          rw [HFX.out, List.findSome?_eq_none_iff]
          intro y hy
          obtain ⟨i, hi, rfl⟩ := List.mem_iff_getElem.1 hy
          exact HN.out i hi hi)
        go_wp2
        go_ret
        refine ⟨HOR.out, (KeepBut.of_below hbwm).trans HKB.out, ?_⟩
        rw [HF2.out]
        rfl
end Go.Proofs.Ytkdfjkocfejfjaa
