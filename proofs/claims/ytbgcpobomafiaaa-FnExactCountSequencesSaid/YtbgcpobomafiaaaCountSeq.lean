/- countLandau, l03Count, CountSequences, walked. -/
import Derived.Test.YtbgcpobomafiaaaCntLan
import Derived.Test.YtbgcpobomafiaaaSets
import Derived.Test.YtbgcpobomafiaaaChoose
import Derived.ArgAppend
namespace Go.Proofs.Ytbgcpobomafiaaa
open Go.RowKit

/-- Nothing that was there has turned but the block at A. -/
structure KeepBut (A : Option Addr) (w w' : World) : Prop where
  os : w'.os = w.os
  tape : w'.tape = w.tape
  output : w'.output = w.output
  size : w.heap.size ≤ w'.heap.size
  block : ∀ g, g < w.heap.size → A ≠ some ⟨g, 0, none⟩ → w'.heap[g]? = w.heap[g]?
section
variable {A A' : Option Addr} {a b c w w' : World}
theorem KeepBut.refl (A : Option Addr) (w : World) : KeepBut A w w := ⟨rfl, rfl, rfl, Nat.le_refl _, fun _ _ _ => rfl⟩
theorem KeepBut.trans (h : KeepBut A a b) (k : KeepBut A b c) : KeepBut A a c :=
  ⟨k.os.trans h.os, k.tape.trans h.tape, k.output.trans h.output, Nat.le_trans h.size k.size, fun g hg r => (k.block g (Nat.lt_of_lt_of_le hg h.size) r).trans (h.block g hg r)⟩
theorem KeepBut.of_below (h : Below w.heap.size w w') : KeepBut A w w' := ⟨h.os, h.tape, h.output, h.size, fun g hg _ => h.block g hg⟩
theorem KeepBut.fresh (h : KeepBut A' b c) (k : KeepBut A a b) (hf : ∃ q, A' = some ⟨q, 0, none⟩ ∧ a.heap.size ≤ q) : KeepBut A a c :=
  ⟨h.os.trans k.os, h.tape.trans k.tape, h.output.trans k.output, Nat.le_trans k.size h.size, fun g hg r => (h.block g (Nat.lt_of_lt_of_le hg k.size) (by
    obtain ⟨q, e, hq⟩ := hf
    rw [e]
    intro e2
    simp only [Option.some.injEq, Addr.mk.injEq, and_true] at e2
    omega)).trans (k.block g hg r)⟩
theorem KeepBut.none (h : KeepBut none w w') : Below w.heap.size w w' := ⟨h.os, h.tape, h.output, h.size, fun g hg => h.block g hg (by simp)⟩
end
theorem own_head {w : World} {lo hi : Nat} {t : TypeId} {A : Option Addr} {c : Nat} {xs ys : List Value} (h : Own w lo hi t A c (xs ++ ys)) : Own w lo hi t A c xs := by
  rcases h with ⟨h1, h2, h3⟩ | ⟨g, cur, e, a, b, hh, h1, h2, h3, h4⟩
  · rw [List.append_eq_nil_iff] at h2
    exact .inl ⟨h1, h2.1, h3⟩
  · refine .inr ⟨g, cur, e, a, b, hh, by simp at h1; omega, h2, h3, ?_⟩
    have := congrArg (List.take xs.length) h4
    rw [List.take_take, List.take_append_of_le_length (Nat.le_refl _), List.take_length, Nat.min_eq_left (by simp)] at this
    exact this

/-- append(list, x) where the list is used on behind it. -/
theorem wpList_pushKeep {ops : Array Oper} {rest : List Oper} {o : Oper} {a : Act} {Q : Exit → Act → World → Prop} {w : World} (hgd : o.guard = none) (s x : Operand)
    (ho : o.op = .call { callee := .builtin .append, args := #[s, x], argTypes := #[24, 24] })
    (lo hi : Nat) (A : Option Addr) (c n : Nat) (zs : List Int) (z : Int) (g : Nat) (hs : a.eval s = .slice A n c) (hx : a.eval x = .slice (some ⟨g, 0, none⟩) 1 1)
    (hn : n = zs.length) (hown : Own w lo hi 3 A c (ints zs)) (hcell : w.cell? ⟨g, 0, none⟩ = some (.int .i64 z)) (hl : n ≤ 1099511627776) (hlo : lo ≤ w.heap.size) (hhi : hi ≤ w.heap.size)
    (h : ∀ A' c' w', Own w' lo w'.heap.size 3 A' c' (ints (zs ++ [z])) → Own w' lo hi 3 A c (ints zs) → KeepBut A w w' → ((A' = A ∧ c' = c) ∨ ∃ q, A' = some ⟨q, 0, none⟩ ∧ w.heap.size ≤ q) →
      wpList Try.prog ops Q rest (a.put o.dst (.slice A' (n + 1) c')) w') : wpList Try.prog ops Q (o :: rest) a w := by
  subst hn
  obtain ⟨i0, hi0, hz0, hz1, hz2⟩ := info_parts int_info
  have hcap := hown.cap
  rw [ints_length] at hcap
  have hgrown : ∀ v' w', w'.ownsRow w.heap.size 3 1 v' (zs.length + 1) (ints zs ++ [Value.int .i64 z]) → w.grownBy w' none → wpList Try.prog ops Q rest (a.put o.dst v') w' := by
    intro v' w' h1 h2
    obtain ⟨A', c', rfl, hlen, ho'⟩ := own_of_ownsRow h1
    have e : (ints zs ++ [Value.int .i64 z]).length = zs.length + 1 := by simp [ints]
    rw [e]
    have hfr : ∃ q, A' = some ⟨q, 0, none⟩ ∧ w.heap.size ≤ q := by
      rcases ho' with ⟨_, h5, _⟩ | ⟨q, cur, e5, h6, _⟩
      · simp at h5
      · exact ⟨q, e5, h6⟩
    refine h A' c' w' (by simpa [ints] using ho'.mono hlo (Nat.le_refl _)) (hown.keep fun b h3 h4 => h2.block b (by omega) (by simp)) ⟨h2.os, h2.tape, h2.output, h2.size, fun b hb _ => h2.block b hb (by simp)⟩ (.inr hfr)
  by_cases hr : zs.length + 1 ≤ c
  · rcases hown with ⟨h1, h2, h3⟩ | ⟨b, cur, rfl, h5, h6, hh, h7, h8, h9, h10⟩
    · omega
    · have hin : ∀ j u, (ints zs)[j]? = some u → w.cell? ⟨b, 0 + j, none⟩ = some u := by
        intro j u hu
        have hj : j < (ints zs).length := (List.getElem?_eq_some_iff.1 hu).1
        rw [cell_of_row w b (0 + j) cur 3 (0, 0) hh, Nat.zero_add, ← hu, ← h10, List.getElem?_take, if_pos hj]
        simp
      refine wpList_append_arg w hgd s x _ ho 3 i0 _ 1 8 Try.underlying24 hi0 hz0 hz1 hz2 rfl (by decide) b 0 zs.length c (ints zs) hs (by simp [ints]) hin ⟨g, 0, none⟩ 1 1 [.int .i64 z] hx rfl ?_ ?_ ?_ ?_ ?_ ?_ ?_
      · intro j u hu
        match j, hu with
        | 0, hu =>
          simp at hu
          subst hu
          exact hcell
        | j + 1, hu => simp at hu
      · intro u hu
        simp at hu
        subst hu
        rfl
      · intro _ j hj
        have hj0 : j = 0 := by simpa using hj
        subst hj0
        constructor
        · rw [cell_of_row w b _ cur 3 (0, 0) hh, Array.getElem?_eq_getElem (by omega)]
          rfl
        · simp [World.frozen?, hh]
      · unfold maxLen; omega
      · omega
      · intro _
        have e0 : w.setCells b (0 + zs.length * 1) [.int .i64 z] = w.setCell ⟨b, zs.length, none⟩ (.int .i64 z) := by
          rw [Nat.zero_add, Nat.mul_one]
          rfl
        rw [e0]
        have hh' := heap_setCell_same w b zs.length cur 3 (.int .i64 z) hh
        have hlen : (ints zs).length = zs.length := ints_length zs
        refine h _ c _ (.inr ⟨b, cur.setIfInBounds zs.length (.int .i64 z), rfl, h5, by simp; omega, hh', by simp [ints]; omega, h8, by simpa using h9, ?_⟩) (.inr ⟨b, cur.setIfInBounds zs.length (.int .i64 z), rfl, h5, h6, hh', h7, h8, by simpa using h9, ?_⟩) ⟨rfl, rfl, rfl, by simp, fun q hq hne => Below.heap_setCell w _ _ q (by intro e; subst e; exact hne rfl)⟩ (.inl ⟨rfl, rfl⟩)
        · rw [Array.toList_setIfInBounds]
          have e1 : ints (zs ++ [z]) = ints zs ++ [.int .i64 z] := by simp [ints]
          rw [e1, List.length_append, List.length_singleton, hlen]
          rw [hlen] at h10
          have hcl : zs.length < cur.toList.length := by simp; omega
          rw [List.take_succ_eq_append_getElem (by simpa using hcl), List.take_set_of_le (Nat.le_refl _), h10]
          simp
        · rw [Array.toList_setIfInBounds, hlen, List.take_set_of_le (Nat.le_refl _)]
          rwa [hlen] at h10
      · intro hlt
        omega
  · have hfull : c = zs.length := by omega
    refine wpList_append_grows w hgd s x _ ho 3 i0 _ 1 8 Try.underlying24 hi0 hz0 hz1 hz2 rfl (by decide) A zs.length c (ints zs) hs (fun e => ?_) (by simp [ints]) (fun b e j u hu => ?_) ⟨g, 0, none⟩ 1 1 [.int .i64 z] hx rfl ?_ ?_ (by omega) (by unfold maxLen; omega) (by omega) hgrown
    · rcases hown with ⟨_, h2, h3⟩ | ⟨b, cur, e2, _⟩
      · have : zs = [] := by simpa [ints] using h2
        subst this
        exact ⟨rfl, h3⟩
      · rw [e] at e2; cases e2
    · have hrow := hown.row
      obtain ⟨b2, off2, e2, _, hc2⟩ := hrow (by have := (List.getElem?_eq_some_iff.1 hu).1; omega)
      rw [e] at e2
      simp only [Option.some.injEq] at e2
      subst e2
      have e3 : (⟨b2, off2, none⟩ : Addr).add j = ⟨b2, off2 + j, none⟩ := by unfold Addr.add; split <;> simp_all
      rw [e3]
      exact hc2 j u hu
    · intro j u hu
      match j, hu with
      | 0, hu =>
        simp at hu
        subst hu
        exact hcell
      | j + 1, hu => simp at hu
    · intro u hu
      simp at hu
      subst hu
      rfl

/-- What countLandau leaves: the number; the list as it was; nothing else turned. -/
def CLPost (w : World) (lo : Nat) (A : Option Addr) (c : Nat) (zs : List Int) (v : Nat) (e : Ending) (w' : World) : Prop :=
  e = .returned (.int .i64 (v : Nat)) ∧ Own w' lo w'.heap.size 3 A c (ints zs) ∧ KeepBut A w w'
theorem castI_snoc (ns : List Nat) (s : Nat) : castI (ns ++ [s]) = castI ns ++ [(s : Int)] := by simp [castI]

theorem cl_step {lo hi : Nat} {A A' : Option Addr} {c c' : Nat} {w wr1 w4 w5 : World} {zs : List Int} {z : Int} (h0 : KeepBut A w wr1) (hhi : hi ≤ wr1.heap.size) (hoA : Own w4 lo hi 3 A c (ints zs)) (hk : KeepBut A wr1 w4)
    (hd : (A' = A ∧ c' = c) ∨ ∃ q, A' = some ⟨q, 0, none⟩ ∧ wr1.heap.size ≤ q) (ho5 : Own w5 lo w5.heap.size 3 A' c' (ints (zs ++ [z]))) (hk5 : KeepBut A' w4 w5) : Own w5 lo w5.heap.size 3 A c (ints zs) ∧ KeepBut A w w5 := by
  have s1 := hk.size
  have s2 := hk5.size
  rcases hd with ⟨rfl, rfl⟩ | ⟨q, rfl, hq⟩
  · refine ⟨own_head (ys := [.int .i64 z]) (by simpa [ints] using ho5), (h0.trans hk).trans hk5⟩
  · refine ⟨(hoA.keep fun b h3 h4 => hk5.block b (by omega) (by intro e; simp only [Option.some.injEq, Addr.mk.injEq, and_true] at e; omega)).mono (Nat.le_refl _) (by omega), KeepBut.fresh hk5 (h0.trans hk) ⟨q, rfl, Nat.le_trans h0.size hq⟩⟩

set_option maxHeartbeats 1600000 in
theorem countLandau_any (n : Nat) (h1 : 1 ≤ n) (h8 : n ≤ 8) (f : Nat) : ∀ (A : Option Addr) (c k : Nat) (ns : List Nat) (lo : Nat) (w : World), k = ns.length → k + f = n → goodN n ns → Own w lo w.heap.size 3 A c (ints (castI ns)) → lo ≤ w.heap.size →
    Calls Try.prog 58 #[.int .i64 (n : Int), .slice A k c] w (CLPost w lo A c (castI ns) (clN n f ns)) := by
  induction f with
  | zero =>
    intro A c k ns lo w hk hkf hg hown hlo
    have hkn : k = n := by omega
    have e0 : ((k : Int) == (n : Int)) = true := by simp [hkn]
    have hrow := hown.row
    have HC := Lib.hid (fun W hr => iIsLandau_any A c (castI ns) W hr (by rw [castI_length]; omega))
    rw [castI_length, ← hk] at HC
    have HO := Lib.hid hown
    clear hown hkn hk hg hkf
    cases hl : lanS (castI ns) with
    | true =>
      have HV : Hid (clN n 0 ns = 1) := Lib.hid (by rw [clN, hl]; rfl)
      have HL : Hid (rIsLandau (castI ns) = true) := Lib.hid hl
      clear hl
      go_enter Try.func58, Try.ntmps58
      go_wp2_with fail
      refine (HC.out _ hrow).mono ?_
      rw [HL.out]
      rintro e w1 ⟨rfl, hb⟩
      go_wp2_with fail
      go_ret
      exact ⟨ret_int (by rw [HV.out]; rfl), (HO.out.below hb (Nat.le_refl _)).mono (Nat.le_refl _) hb.size, KeepBut.of_below hb⟩
    | false =>
      have HV : Hid (clN n 0 ns = 0) := Lib.hid (by rw [clN, hl]; rfl)
      have HL : Hid (rIsLandau (castI ns) = false) := Lib.hid hl
      clear hl
      go_enter Try.func58, Try.ntmps58
      go_wp2_with fail
      refine (HC.out _ hrow).mono ?_
      rw [HL.out]
      rintro e w1 ⟨rfl, hb⟩
      go_wp2_with fail
      go_ret
      exact ⟨ret_int (by rw [HV.out]; rfl), (HO.out.below hb (Nat.le_refl _)).mono (Nat.le_refl _) hb.size, KeepBut.of_below hb⟩
  | succ f ih =>
    intro A c k ns lo w hk hkf hg hown hlo
    have hkn : k < n := by omega
    have e0 : ((k : Int) == (n : Int)) = false := by simp; omega
    have hf7 : f ≤ 7 := by omega
    have h8f : 8 ^ f ≤ 2097152 := Nat.le_trans (Nat.pow_le_pow_right (by omega) hf7) (by decide)
    have hln : leastN ns ≤ n := by
      unfold leastN
      by_cases e : ns.length = 0
      · rw [List.getD, List.getElem?_eq_none (by omega)]; simp
      · exact Nat.le_of_lt (hg.1 _ (by omega))
    have HV : Hid (clN n (f + 1) ns = rsum (fun s => clN n f (ns ++ [s])) (leastN ns) (n - leastN ns)) := Lib.hid rfl
    have HB := Lib.hid (fun j => rsum_le (fun s => clN n f (ns ++ [s])) (8 ^ f) (leastN ns) j (fun x => clN_le n h8 f (ns ++ [x])))
    have HK := Lib.hid hk
    have HG := Lib.hid hg
    have HO := Lib.hid hown
    have hkf' : k + 1 + f = n := by omega
    by_cases hk0 : 0 < k
    · have hrow := hown.row
      obtain ⟨b, off, rfl, hbB, hc⟩ := hrow.int (k := k - 1) (by rw [castI_length]; omega)
      have hlast : (castI ns)[k - 1]'(by rw [castI_length]; omega) = ((leastN ns : Nat) : Int) := by
        have := castI_getD ns (k - 1)
        rw [getD_lt _ _ _ (by rw [castI_length]; omega)] at this
        rw [this]
        unfold leastN
        rw [← hk]
      rw [hlast] at hc
      have t0 : (k : Int) - 1 = ((k - 1 : Nat) : Int) := by omega
      have HGS := Lib.hid (fun s (h1 : leastN ns ≤ s) (h2 : s < n) => goodN_snoc n ns s hg h1 h2)
      clear hrow hown hk hg hkf hlast
      generalize leastN ns = le at *
      go_enter Try.func58, Try.ntmps58
      go_wp2
      go_loopw [6, 7] (fun v i wr => ∃ j : Nat, j ≤ n - le ∧ i = .int .i64 ((le + j : Nat) : Int) ∧ v = .int .i64 (rsum (fun s => clN n f (ns ++ [s])) le j : Nat) ∧ Own wr lo wr.heap.size 3 (some ⟨b, off, none⟩) c (ints (castI ns)) ∧ KeepBut (some ⟨b, off, none⟩) w wr) (fun _ i _ => n - (intOf i).toNat)
      case atStart => exact ⟨0, Nat.zero_le _, by first | rfl | (simp; done) | simp [Nat.add_zero], rfl, HO.out, KeepBut.refl _ _⟩
      case round =>
        obtain ⟨j, hj, rfl, rfl, ho, hkb⟩ := hrel
        have HO := Lib.hid ho
        clear ho
        by_cases hlt : le + j < n
        · have hgs := HGS.out (le + j) (by omega) hlt
          have HCL := Lib.hid (fun A' c' W hr hz => ih A' c' (k + 1) (ns ++ [le + j]) lo W (by rw [List.length_append, ← HK.out]; rfl) hkf' hgs hr hz)
          have HR := Lib.hid (rsum_succ (fun s => clN n f (ns ++ [s])) le j)
          have hle1 := HB.out (j + 1) (by omega)
          have hle0 := HB.out j (by omega)
          have hsz := hkb.size
          have hv0 : Hid (rsum (fun s => clN n f (ns ++ [s])) le (j + 1) = rsum (fun s => clN n f (ns ++ [s])) le j + clN n f (ns ++ [le + j])) := Lib.hid HR.out
          have E3 : IntKind.i64.wrap (((rsum (fun s => clN n f (ns ++ [s])) le j : Nat) : Int) + (clN n f (ns ++ [le + j]) : Nat)) = ((rsum (fun s => clN n f (ns ++ [s])) le (j + 1) : Nat) : Int) := by
            rw [hv0.out] at hle1 ⊢
            rw [IntKind.wrap_i64]; omega
          clear ih hgs
          generalize hs : le + j = s at *
          have HS := Lib.hid hs
          clear hs
          go_wp2_with (at_builtin; refine wpList_pushKeep rfl (.tmp 31) (.tmp 33) rfl lo wr.heap.size (some ⟨b, off, none⟩) c k (castI ns) (s : Int) wr.heap.size rfl rfl ?c1 ?c2 ?c3 (by omega) ?c4 ?c5 ?_)
          case c1 => rw [castI_length]; exact HK.out
          case c2 => exact HO.out.alloc (Nat.le_refl _) _
          case c3 => go_simp
          case c4 => simp; omega
          case c5 => simp
          intro A' c' w4 ho4 hoA hk4 hd4
          rw [← castI_snoc] at ho4
          have hkw : KeepBut (some ⟨b, off, none⟩) w (wr.alloc (.cells #[.int .i64 (s : Int)] 3)) := hkb.trans (KeepBut.of_below (by go_grown))
          go_wp2_with fail
          refine (HCL.out A' c' w4 ho4 (by have := hk4.size; simp at this; omega)).mono ?_
          rintro e w5 ⟨rfl, ho5, hk5⟩
          rw [castI_snoc] at ho5
          obtain ⟨ho6, hk6⟩ := cl_step hkw (by simp) hoA hk4 (by rw [World.size_alloc]; exact hd4) ho5 hk5
          go_wp2
          go_roundw
          case rel => exact ⟨j + 1, by have := HS.out; omega, by rw [show le + (j + 1) = s + 1 by have := HS.out; omega]; rfl, by first | rfl | (rw [hv0.out]; go_num), ho6, hk6⟩
          case measure => simp [intOf]; omega
        · have ej : j = n - le := by omega
          have EJ := Lib.hid ej
          clear ej
          go_wp2
          go_ret
          exact ⟨ret_int (by rw [EJ.out]; exact congrArg _ HV.out.symm), HO.out, hkb⟩
    · have hkz : k = 0 := by omega
      have hle0 : leastN ns = 0 := by
        unfold leastN
        rw [List.getD, List.getElem?_eq_none (by omega)]
        rfl
      have HGS := Lib.hid (fun s (h1 : leastN ns ≤ s) (h2 : s < n) => goodN_snoc n ns s hg h1 h2)
      clear hkz
      clear hown hk hg hkf
      generalize hle : leastN ns = le at *
      subst hle0
      go_enter Try.func58, Try.ntmps58
      go_wp2
      go_loopw [6, 7] (fun v i wr => ∃ j : Nat, j ≤ n - 0 ∧ i = .int .i64 ((0 + j : Nat) : Int) ∧ v = .int .i64 (rsum (fun s => clN n f (ns ++ [s])) 0 j : Nat) ∧ Own wr lo wr.heap.size 3 A c (ints (castI ns)) ∧ KeepBut A w wr) (fun _ i _ => n - (intOf i).toNat)
      case atStart => exact ⟨0, Nat.zero_le _, by first | rfl | (simp; done) | simp [Nat.add_zero], rfl, HO.out, KeepBut.refl _ _⟩
      case round =>
        obtain ⟨j, hj, rfl, rfl, ho, hkb⟩ := hrel
        have HO := Lib.hid ho
        clear ho
        by_cases hlt : 0 + j < n
        · have hgs := HGS.out (0 + j) (by omega) hlt
          have HCL := Lib.hid (fun A' c' W hr hz => ih A' c' (k + 1) (ns ++ [0 + j]) lo W (by rw [List.length_append, ← HK.out]; rfl) hkf' hgs hr hz)
          have HR := Lib.hid (rsum_succ (fun s => clN n f (ns ++ [s])) 0 j)
          have hle1 := HB.out (j + 1) (by omega)
          have hle0 := HB.out j (by omega)
          have hsz := hkb.size
          have hv0 : Hid (rsum (fun s => clN n f (ns ++ [s])) 0 (j + 1) = rsum (fun s => clN n f (ns ++ [s])) 0 j + clN n f (ns ++ [0 + j])) := Lib.hid HR.out
          have E3 : IntKind.i64.wrap (((rsum (fun s => clN n f (ns ++ [s])) 0 j : Nat) : Int) + (clN n f (ns ++ [0 + j]) : Nat)) = ((rsum (fun s => clN n f (ns ++ [s])) 0 (j + 1) : Nat) : Int) := by
            rw [hv0.out] at hle1 ⊢
            rw [IntKind.wrap_i64]; omega
          clear ih hgs
          generalize hs : 0 + j = s at *
          have HS := Lib.hid hs
          clear hs
          go_wp2_with (at_builtin; refine wpList_pushKeep rfl (.tmp 31) (.tmp 33) rfl lo wr.heap.size A c k (castI ns) (s : Int) wr.heap.size rfl rfl ?c1 ?c2 ?c3 (by omega) ?c4 ?c5 ?_)
          case c1 => rw [castI_length]; exact HK.out
          case c2 => exact HO.out.alloc (Nat.le_refl _) _
          case c3 => go_simp
          case c4 => simp; omega
          case c5 => simp
          intro A' c' w4 ho4 hoA hk4 hd4
          rw [← castI_snoc] at ho4
          have hkw : KeepBut A w (wr.alloc (.cells #[.int .i64 (s : Int)] 3)) := hkb.trans (KeepBut.of_below (by go_grown))
          go_wp2_with fail
          refine (HCL.out A' c' w4 ho4 (by have := hk4.size; simp at this; omega)).mono ?_
          rintro e w5 ⟨rfl, ho5, hk5⟩
          rw [castI_snoc] at ho5
          obtain ⟨ho6, hk6⟩ := cl_step hkw (by simp) hoA hk4 (by rw [World.size_alloc]; exact hd4) ho5 hk5
          go_wp2
          go_roundw
          case rel => exact ⟨j + 1, by have := HS.out; omega, by rw [show 0 + (j + 1) = s + 1 by have := HS.out; omega]; rfl, by first | rfl | (rw [hv0.out]; go_num), ho6, hk6⟩
          case measure => simp [intOf]; omega
        · have ej : j = n - 0 := by omega
          have EJ := Lib.hid ej
          clear ej
          go_wp2
          go_ret
          exact ⟨ret_int (by rw [EJ.out]; exact congrArg _ HV.out.symm), HO.out, hkb⟩

theorem l3_cut (n f k last sum j : Nat) (hj : j ≤ n - last) (hx : triS n < sum + (last + j) * (n - k)) :
    rsum (fun x => if sum + x * (n - k) ≤ triS n then l3N n f (k + 1) x (sum + x) else 0) last (n - last) = rsum (fun x => if sum + x * (n - k) ≤ triS n then l3N n f (k + 1) x (sum + x) else 0) last j := by
  refine rsum_cut _ _ _ _ hj fun i h1 h2 => ?_
  rw [if_neg]
  have : (last + j) * (n - k) ≤ (last + i) * (n - k) := Nat.mul_le_mul_right _ (by omega)
  omega
theorem tri_form (k : Nat) (hk : k ≤ 8) : ∃ p : Nat, Hid (p / 2 = triS k) ∧ p ≤ 56 ∧ Hid ((k : Int) * ((k : Int) - 1) = (p : Int)) := by
  refine ⟨k * (k - 1), Lib.hid rfl, Nat.mul_le_mul (show k ≤ 8 by omega) (show k - 1 ≤ 7 by omega), Lib.hid ?_⟩
  cases k with
  | zero => rfl
  | succ k => rw [Int.natCast_mul, show ((k + 1 : Nat) : Int) - 1 = ((k + 1 - 1 : Nat) : Int) by omega]
set_option maxHeartbeats 1600000 in
theorem l03Count_any (n : Nat) (h1 : 1 ≤ n) (h8 : n ≤ 8) (f : Nat) : ∀ (k last sum : Nat) (w : World), k + f = n → last ≤ n → sum ≤ 1000 →
    Calls Try.prog 57 #[.int .i64 (n : Int), .int .i64 (k : Int), .int .i64 (last : Int), .int .i64 (sum : Int)] w fun e w' => e = .returned (.int .i64 (l3N n f k last sum : Nat)) ∧ Below w.heap.size w w' := by
  obtain ⟨pn, hpn, hpn8, HPN⟩ := tri_form n h8
  induction f with
  | zero =>
    intro k last sum w hk hl hs
    obtain rfl : k = n := by omega
    have EPK := HPN.out
    by_cases c1 : sum < pn / 2
    · have HV : Hid (l3N k 0 k last sum = 0) := Lib.hid (by rw [l3N, if_pos (by rw [← hpn.out]; exact c1)])
      have c1' : (sum : Int) < (pn : Int) / 2 := by omega
      go_enter Try.func57, Try.ntmps57
      go_wp2
      go_ret
      exact ⟨ret_int (by rw [HV.out]; rfl), by go_grown⟩
    · have c1' : ¬ (sum : Int) < (pn : Int) / 2 := by omega
      by_cases c2 : sum = pn / 2
      · have HV : Hid (l3N k 0 k last sum = 1) := Lib.hid (by rw [l3N, if_neg (by rw [← hpn.out]; exact c1), if_pos (by rw [← hpn.out]; exact c2)])
        have c2' : ((sum : Int) == (pn : Int) / 2) = true := by rw [beq_iff_eq]; omega
        clear c2
        go_enter Try.func57, Try.ntmps57
        go_wp2
        go_ret
        exact ⟨ret_int (by rw [HV.out]; rfl), by go_grown⟩
      · have HV : Hid (l3N k 0 k last sum = 0) := Lib.hid (by rw [l3N, if_neg (by rw [← hpn.out]; exact c1), if_neg (by rw [← hpn.out]; exact c2)])
        have c2' : ((sum : Int) == (pn : Int) / 2) = false := by rw [beq_eq_false_iff_ne]; omega
        go_enter Try.func57, Try.ntmps57
        go_wp2
        go_ret
        exact ⟨ret_int (by rw [HV.out]; rfl), by go_grown⟩
  | succ f ih =>
    intro k last sum w hk hl hs
    obtain ⟨pk, hpk, hpk8, HPK⟩ := tri_form k (by omega)
    have EPK := HPK.out
    have EPN := HPN.out
    by_cases c1 : sum < pk / 2
    · have HV : Hid (l3N n (f + 1) k last sum = 0) := Lib.hid (by rw [l3N, if_pos (by rw [← hpk.out]; exact c1)])
      have c1' : (sum : Int) < (pk : Int) / 2 := by omega
      clear ih
      go_enter Try.func57, Try.ntmps57
      go_wp2
      go_ret
      exact ⟨ret_int (by rw [HV.out]; rfl), by go_grown⟩
    · have c1' : ¬ (sum : Int) < (pk : Int) / 2 := by omega
      have HV : Hid (l3N n (f + 1) k last sum = rsum (fun x => if sum + x * (n - k) ≤ triS n then l3N n f (k + 1) x (sum + x) else 0) last (n - last)) := Lib.hid (by rw [l3N, if_neg (by rw [← hpk.out]; exact c1)])
      have ekn : ((k : Int) == (n : Int)) = false := by rw [beq_eq_false_iff_ne]; omega
      have h8f : 8 ^ f ≤ 2097152 := Nat.le_trans (Nat.pow_le_pow_right (by omega) (show f ≤ 7 by omega)) (by decide)
      have HB := Lib.hid (fun j => rsum_le (fun x => if sum + x * (n - k) ≤ triS n then l3N n f (k + 1) x (sum + x) else 0) (8 ^ f) last j (fun x => by split; exact l3N_le n h8 f _ _ _; simp))
      have HCUT := Lib.hid (l3_cut n f k last sum)
      have HRS := Lib.hid (rsum_succ (fun x => if sum + x * (n - k) ≤ triS n then l3N n f (k + 1) x (sum + x) else 0) last)
      have IH := Lib.hid ih
      clear ih
      go_enter Try.func57, Try.ntmps57
      go_wp2
      go_loopw [9, 10] (fun v i wr => ∃ j : Nat, j ≤ n - last ∧ i = .int .i64 ((last + j : Nat) : Int) ∧ v = .int .i64 (rsum (fun x => if sum + x * (n - k) ≤ triS n then l3N n f (k + 1) x (sum + x) else 0) last j : Nat) ∧ Below w.heap.size w wr) (fun _ i _ => n - (intOf i).toNat)
      case atStart => exact ⟨0, Nat.zero_le _, rfl, rfl, Below.refl _ _⟩
      case round =>
        obtain ⟨j, hj, rfl, rfl, hb⟩ := hrel
        by_cases hlt : last + j < n
        · have hcut := HCUT.out j hj
          have hle1 := HB.out (j + 1) (by omega)
          have hrs : rsum (fun x => if sum + x * (n - k) ≤ triS n then l3N n f (k + 1) x (sum + x) else 0) last (j + 1) = rsum (fun x => if sum + x * (n - k) ≤ triS n then l3N n f (k + 1) x (sum + x) else 0) last j + (if sum + (last + j) * (n - k) ≤ triS n then l3N n f (k + 1) (last + j) (sum + (last + j)) else 0) := HRS.out j
          generalize hs' : last + j = x at *
          have HS := Lib.hid hs'
          clear hs'
          obtain ⟨m, hm, hm8, HM⟩ : ∃ m : Nat, Hid (m = x * (n - k)) ∧ m ≤ 64 ∧ Hid ((x : Int) * ((n : Int) - (k : Int)) = (m : Int)) := by
            refine ⟨x * (n - k), Lib.hid rfl, ?_, Lib.hid ?_⟩
            · exact Nat.mul_le_mul (show x ≤ 8 by omega) (show n - k ≤ 8 by omega)
            · have e : ((n : Int) - (k : Int)) = ((n - k : Nat) : Int) := by omega
              rw [e, ← Int.natCast_mul]
          have EM := HM.out
          by_cases c3 : sum + m ≤ pn / 2
          · have c3' : (sum : Int) + (m : Int) ≤ (pn : Int) / 2 := by omega
            rw [if_pos (show sum + x * (n - k) ≤ triS n by rw [← hm.out, ← hpn.out]; exact c3)] at hrs
            have HR := Lib.hid hrs
            clear hrs hcut
            rw [HR.out] at hle1
            have HC := Lib.hid (IH.out (k + 1) x (sum + x))
            go_wp2_with fail
            refine (HC.out _ (by omega) (by omega) (by omega)).mono ?_
            rintro e w2 ⟨rfl, hb2⟩
            have hb := below_trans hb hb2
            go_wp2
            go_roundw
            case rel => exact ⟨j + 1, by have := HS.out; omega, by rw [show last + (j + 1) = x + 1 by have := HS.out; omega]; rfl, by rw [HR.out]; go_num, hb⟩
            case measure => simp [intOf]; omega
          · have c3' : ¬ (sum : Int) + (m : Int) ≤ (pn : Int) / 2 := by omega
            have HR := Lib.hid (hcut (by rw [← hm.out, ← hpn.out]; omega))
            clear hrs hcut
            go_wp2
            go_ret
            exact ⟨ret_int (by rw [HV.out, HR.out]), hb⟩
        · have EJ := Lib.hid (show j = n - last by omega)
          go_wp2
          go_ret
          exact ⟨ret_int (by rw [EJ.out]; exact congrArg _ HV.out.symm), hb⟩
def rCountSequences (x : Int) : Int := if 1 ≤ x ∧ x ≤ 8 then (clN x.toNat x.toNat [] : Nat) else -1
theorem iCountSequences_any (x : Int) (w : World) :
    Calls Try.prog 31 #[.int .i64 x] w fun e w' => e = .returned (.int .i64 (rCountSequences x)) ∧ Below w.heap.size w w' := by
  by_cases h : 1 ≤ x ∧ x ≤ 8
  · obtain ⟨n, rfl⟩ := Int.eq_ofNat_of_zero_le (show 0 ≤ x by omega)
    obtain ⟨h1, h8⟩ : 1 ≤ n ∧ n ≤ 8 := by omega
    have R : Hid (rCountSequences (n : Int) = (clN n n [] : Nat)) := Lib.hid (by unfold rCountSequences; rw [if_pos h, Int.toNat_natCast])
    have HC := Lib.hid (fun W => countLandau_any n h1 h8 n none 0 0 [] W.heap.size W rfl (by omega) ⟨fun i hi => absurd hi (by simp), fun i hi => absurd hi (by simp)⟩ (.inl ⟨rfl, rfl, rfl⟩) (Nat.le_refl _))
    clear h
    go_enter Try.func31, Try.ntmps31
    go_wp2_with (go_at_call 49; refine (within_yes _ _ _ _ (by omega) (by omega)).mono ?_; rintro e w' ⟨rfl, rfl⟩)
    go_wp2_with fail
    refine (HC.out _).mono ?_
    rintro e w2 ⟨rfl, ho, hk⟩
    go_wp2
    go_ret
    exact ⟨ret_int R.out.symm, hk.none⟩
  · have R : Hid (rCountSequences x = -1) := Lib.hid (if_neg h)
    have h' : x < 1 ∨ 8 < x := by omega
    clear h
    go_enter Try.func31, Try.ntmps31
    go_wp2_with (go_at_call 49; refine (within_no _ _ _ _ h').mono ?_; rintro e w' ⟨rfl, rfl⟩)
    go_ret
    exact ⟨ret_int R.out.symm, Below.refl _ _⟩
theorem sCountSequences_any (x : Int) (w : World) :
    Calls Try.prog 30 #[.int .i64 x] w fun e w' => e = .returned (.int .i64 (rCountSequences x)) ∧ Below w.heap.size w w' := by
  by_cases h : 1 ≤ x ∧ x ≤ 8
  · obtain ⟨n, rfl⟩ := Int.eq_ofNat_of_zero_le (show 0 ≤ x by omega)
    obtain ⟨h1, h8⟩ : 1 ≤ n ∧ n ≤ 8 := by omega
    have R : Hid (rCountSequences (n : Int) = (l3N n n 0 0 0 : Nat)) := Lib.hid (by unfold rCountSequences; rw [if_pos h, Int.toNat_natCast, cl_l3 n h1 h8])
    have HC := Lib.hid (fun W => l03Count_any n h1 h8 n 0 0 0 W (by omega) (by omega) (by omega))
    clear h
    go_enter Try.func30, Try.ntmps30
    go_wp2_with (go_at_call 48; refine (sIn_yes _ _ _ _ (by omega) (by omega)).mono ?_; rintro e w' ⟨rfl, rfl⟩)
    go_wp2_with fail
    refine (HC.out _).mono ?_
    rintro e w2 ⟨rfl, hk⟩
    go_wp2
    go_ret
    exact ⟨ret_int R.out.symm, hk⟩
  · have R : Hid (rCountSequences x = -1) := Lib.hid (if_neg h)
    have h' : x < 1 ∨ 8 < x := by omega
    clear h
    go_enter Try.func30, Try.ntmps30
    go_wp2_with (go_at_call 48; refine (sIn_no _ _ _ _ h').mono ?_; rintro e w' ⟨rfl, rfl⟩)
    go_ret
    exact ⟨ret_int R.out.symm, Below.refl _ _⟩
end Go.Proofs.Ytbgcpobomafiaaa
