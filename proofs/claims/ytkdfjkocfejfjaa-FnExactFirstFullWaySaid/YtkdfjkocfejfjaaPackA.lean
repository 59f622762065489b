/- setOf, and ContainsFunc on lists of lists, walked. -/
import Derived.Test.YtkdfjkocfejfjaaPackP
import Derived.Test.YtkdfjkocfejfjaaKeep
import Derived.Test.YtkdfjkocfejfjaaTables
import Derived.Test.YtkdfjkocfejfjaaLib
import Derived.Test.YtkdfjkocfejfjaaKings
namespace Go.Proofs.Ytkdfjkocfejfjaa
open Go.RowKit

def sTk (r : List Int) (k : Nat) : Nat := sT (r.take k)
theorem sT_snoc (r : List Int) (z : Int) : sT (r ++ [z]) = sT r ||| 2 ^ z.toNat := by unfold sT; rw [List.foldl_append]; rfl
theorem sT_small : ∀ (r : List Int), (∀ z ∈ r, 0 ≤ z ∧ z < 8) → sT r < 256 := by
  intro r
  unfold sT
  have : ∀ (l : List Int) (x : Nat), x < 256 → (∀ z ∈ l, 0 ≤ z ∧ z < 8) → l.foldl (fun x a => x ||| 2 ^ a.toNat) x < 256 := by
    intro l
    induction l with
    | nil => intro x hx _; exact hx
    | cons z l ih =>
      intro x hx h
      rw [List.foldl_cons]
      refine ih _ ?_ (fun z' hz' => h z' (List.mem_cons_of_mem _ hz'))
      have hz := h z (List.mem_cons_self ..)
      have hp := Nat.pow_lt_pow_right (a := 2) (by omega) (show z.toNat < 8 by omega)
      exact Nat.or_lt_two_pow (n := 8) hx hp
  exact this r 0 (by omega)
theorem setOf_any (A : Option Addr) (c : Nat) (zs : List Int) (w : World) (h : Row w w.heap.size A (ints zs)) (hz : ∀ z ∈ zs, 0 ≤ z ∧ z < 8) (hl : zs.length ≤ 1099511627776) :
    Calls Try.prog 86 #[.slice A zs.length c] w fun e w' => e = .returned (.int .i64 (sT zs : Nat)) ∧ Below w.heap.size w w' := by
  have HZ := Lib.hid hz
  clear hz
  go_enter Try.func86, Try.ntmps86
  go_wp2
  go_loopw [3, 8] (fun v i wr => ∃ k : Nat, k ≤ zs.length ∧ i = .int .i64 (k : Int) ∧ v = .int .i64 (sT (zs.take k) : Nat) ∧ Below w.heap.size w wr) (fun _ i _ => zs.length - (intOf i).toNat)
  case atStart => exact ⟨0, Nat.zero_le _, rfl, rfl, Below.refl _ _⟩
  case round =>
    obtain ⟨k, hk, rfl, rfl, hb⟩ := hrel
    by_cases hlt : k < zs.length
    · obtain ⟨b, off, rfl, hbB, hc⟩ := (h.below hb (Nat.le_refl _)).int hlt
      have hzk := HZ.out _ (List.getElem_mem hlt)
      have HS : Hid (sT (zs.take (k + 1)) = sT (zs.take k) ||| 2 ^ zs[k].toNat) := Lib.hid (by rw [List.take_add_one, List.getElem?_eq_getElem hlt, Option.toList_some, sT_snoc])
      have hs := sT_small (zs.take k) (fun z hz => HZ.out z (List.mem_of_mem_take hz))
      obtain ⟨y, hy⟩ : ∃ y : Nat, zs[k] = (y : Int) := ⟨zs[k].toNat, by omega⟩
      rw [hy] at hc HS hzk
      rw [Int.toNat_natCast] at HS
      obtain ⟨q1, q2⟩ := pow_small y (by omega)
      have hp := Nat.pow_lt_pow_right (a := 2) (by omega) (show y < 8 by omega)
      have E : bits .or .i64 ((sT (zs.take k) : Nat) : Int) ((2 : Int) ^ y) = ((sT (zs.take k) ||| 2 ^ y : Nat) : Int) := by
        have hx := or_nat (sT (zs.take k)) (2 ^ y) (by omega) (by omega)
        rwa [Int.natCast_pow] at hx
      have hw2 : IntKind.i64.wrap (2 ^ y) = 2 ^ y := by rw [IntKind.wrap_i64]; omega
      clear hy h
      generalize sT (zs.take k) = s0 at *
      go_wp2
      go_roundw
      case rel => exact ⟨k + 1, by omega, by go_num, by rw [HS.out], hb⟩
      case measure => simp [intOf]; omega
    · obtain rfl : k = zs.length := by omega
      have HS : Hid (zs.take zs.length = zs) := Lib.hid (List.take_length ..)
      go_wp2
      go_ret
      exact ⟨ret_int (by rw [HS.out]), hb⟩

/-! ### ContainsFunc on a table -/
def idxR (p : List Int → Bool) (rs : List (List Int)) : Int := if rs.findIdx p < rs.length then (rs.findIdx p : Int) else -1
theorem idxR_hit (p : List Int → Bool) (rs : List (List Int)) (k : Nat) (hk : k < rs.length) (hp : p rs[k] = true) (hn : ∀ j (hj : j < k), p rs[j] = false) : idxR p rs = (k : Int) := by
  have e : rs.findIdx p = k := by
    rw [List.findIdx_eq hk]
    exact ⟨hp, fun j hj => by simp [hn j hj]⟩
  unfold idxR
  rw [e, if_pos hk]
theorem idxR_miss (p : List Int → Bool) (rs : List (List Int)) (hn : ∀ j (hj : j < rs.length), p rs[j] = false) : idxR p rs = -1 := by
  have e : rs.findIdx p = rs.length := by
    rw [List.findIdx_eq_length]
    intro x hx
    obtain ⟨i, hi, rfl⟩ := List.mem_iff_getElem.1 hx
    exact hn i hi
  unfold idxR
  rw [e, if_neg (by omega)]
theorem idxR_ge (p : List Int → Bool) (rs : List (List Int)) : decide (0 ≤ idxR p rs) = rs.any p := by
  unfold idxR
  by_cases h : rs.findIdx p < rs.length
  · rw [if_pos h]
    have := List.findIdx_lt_length.1 h
    simp only [Int.natCast_nonneg, decide_true]
    symm
    rw [List.any_eq_true]
    exact this
  · rw [if_neg h]
    symm
    simp only [Int.reduceNeg, Int.reduceLE, decide_false]
    rw [List.any_eq_false]
    intro x hx hp
    exact h (List.findIdx_lt_length.2 ⟨x, hx, hp⟩)
/-- At each of the rows, in every world in which all that lay lies unturned, the function value says p. -/
def PredOnR (g : Nat) (lb : Array Value) (p : List Int → Bool) (rs : List (List Int)) (w : World) : Prop :=
  ∀ (W : World) (A' : Option Addr) (c' : Nat) (r : List Int), Below w.heap.size w W → r ∈ rs → Row W W.heap.size A' (ints r) → Calls Try.prog g (#[.slice A' r.length c'] ++ lb) W fun e w' => e = .returned (.bool (p r)) ∧ Below W.heap.size W w'
theorem indexFuncR_any (g : Nat) (lb : Array Value) (eg : ∀ args w, (callFunc g args).run Try.prog w = .ok (.enter g args) w) (A : Option Addr) (c : Nat) (rs : List (List Int)) (p : List Int → Bool) (w : World)
    (hp : PredOnR g lb p rs w) (h : Table w w.heap.size A rs) (hl : rs.length ≤ 1099511627776) :
    Calls Try.prog 106 #[.slice A rs.length c, .func (.func g) #[] lb] w fun e w' => e = .returned (.int .i64 (idxR p rs)) ∧ Below w.heap.size w w' := by
  go_enter Try.func106, Try.ntmps106
  go_wp2
  go_loopw [8] (fun i wr => ∃ k : Nat, k ≤ rs.length ∧ i = .int .i64 k ∧ Below w.heap.size w wr ∧ Hid (∀ j (hj : j < rs.length), j < k → p rs[j] = false)) (fun i _ => rs.length - (intOf i).toNat)
  case atStart => exact ⟨0, Nat.zero_le _, rfl, Below.refl _ _, Lib.hid (fun j hj h => by omega)⟩
  case round =>
    obtain ⟨k, hk, rfl, hb, HN⟩ := hrel
    by_cases hlt : k < rs.length
    · obtain ⟨b, off, A1, c1, rfl, hbB, hc, hr⟩ := (h.rowAt hb (Nat.le_refl _)).at_ hlt
      have hcall := hp wr A1 c1 rs[k] hb (List.getElem_mem hlt) hr
      clear hp h hr
      generalize hy : rs[k] = y at hc hcall
      have B := Lib.hid hy
      clear hy
      cases hq : p y with
      | true =>
        rw [hq] at hcall
        have Q := Lib.hid hq
        clear hq
        go_wp2_with (go_at_fn g; refine hcall.mono ?_; rintro e w1 ⟨rfl, hb1⟩)
        go_ret
        exact ⟨ret_int (idxR_hit p rs k hlt (by rw [B.out]; exact Q.out) (fun j hj => HN.out j (by omega) hj)).symm, hb.trans (hb1.mono hb.size)⟩
      | false =>
        rw [hq] at hcall
        have Q := Lib.hid hq
        clear hq
        go_wp2_with (go_at_fn g; refine hcall.mono ?_; rintro e w1 ⟨rfl, hb1⟩)
        go_roundw
        case rel =>
          refine ⟨k + 1, by omega, by go_num, hb.trans (hb1.mono hb.size), Lib.hid (fun j hj hjk => ?_)⟩
          by_cases e : j = k
          · subst e; rw [B.out]; exact Q.out
          · exact HN.out j hj (by omega)
        case measure => simp [intOf]; omega
    · obtain rfl : k = rs.length := by omega
      go_wp2
      go_ret
      exact ⟨ret_int (idxR_miss p rs (fun j hj => HN.out j hj hj)).symm, hb⟩
theorem containsFuncR_any (g : Nat) (lb : Array Value) (eg : ∀ args w, (callFunc g args).run Try.prog w = .ok (.enter g args) w) (A : Option Addr) (c : Nat) (rs : List (List Int)) (p : List Int → Bool) (w : World)
    (hp : PredOnR g lb p rs w) (h : Table w w.heap.size A rs) (hl : rs.length ≤ 1099511627776) :
    Calls Try.prog 84 #[.slice A rs.length c, .func (.func g) #[] lb] w fun e w' => e = .returned (.bool (rs.any p)) ∧ Below w.heap.size w w' := by
  go_enter Try.func84, Try.ntmps84
  go_wp2_with fail
  refine (indexFuncR_any g lb eg A c rs p _ hp h hl).mono ?_
  rintro e w1 ⟨rfl, hb⟩
  go_wp2
  go_ret
  exact ⟨ret_bool (idxR_ge p rs), hb⟩

/-! ### A slice of slices that takes one more slice -/
/-- append(out, list): the outer row alone; it grows in its place or anew. -/
theorem wpList_pushV {ops : Array Oper} {rest : List Oper} {o : Oper} {a : Act} {Q : Exit → Act → World → Prop} {w : World} (hgd : o.guard = none) (s x : Operand)
    (ho : o.op = .call { callee := .builtin .append, args := #[s, x], argTypes := #[36, 36] })
    (lo hi : Nat) (A : Option Addr) (c n : Nat) (vs : List Value) (A1 : Option Addr) (k c1 q : Nat) (hs : a.eval s = .slice A n c) (hx : a.eval x = .slice (some ⟨q, 0, none⟩) 1 1)
    (hn : n = vs.length) (hown : Own w lo hi 22 A c vs) (hcell : w.cell? ⟨q, 0, none⟩ = some (.slice A1 k c1)) (hl : n ≤ 1099511627776) (hlo : lo ≤ w.heap.size) (hhi : hi ≤ w.heap.size)
    (h : ∀ A' c' w' lo' hi', Own w' lo' hi' 22 A' c' (vs ++ [.slice A1 k c1]) → hi' ≤ w'.heap.size → ((lo' = lo ∧ hi' = hi ∧ n + 1 ≤ c ∧ KeepBut A w w') ∨ (w.heap.size ≤ lo' ∧ Below w.heap.size w w')) →
      wpList Try.prog ops Q rest (a.put o.dst (.slice A' (n + 1) c')) w') : wpList Try.prog ops Q (o :: rest) a w := by
  subst hn
  obtain ⟨i0, hi0, hz0, hz1, hz2⟩ := info_parts ints_info
  have hcap := hown.cap
  have hgrown : ∀ v' w', w'.ownsRow w.heap.size 22 1 v' (vs.length + 1) (vs ++ [Value.slice A1 k c1]) → w.grownBy w' none → wpList Try.prog ops Q rest (a.put o.dst v') w' := by
    intro v' w' h1 h2
    obtain ⟨A', c', rfl, hlen, ho'⟩ := own_of_ownsRow h1
    have e : (vs ++ [Value.slice A1 k c1]).length = vs.length + 1 := by simp
    rw [e]
    exact h A' c' w' _ _ ho' (Nat.le_refl _) (.inr ⟨Nat.le_refl _, ⟨h2.os, h2.tape, h2.output, h2.size, fun b hb => h2.block b hb (by simp)⟩⟩)
  by_cases hr : vs.length + 1 ≤ c
  · rcases hown with ⟨h1, h2, h3⟩ | ⟨b, cur, rfl, h5, h6, hh, h7, h8, h9, h10⟩
    · omega
    · have hin : ∀ j u, vs[j]? = some u → w.cell? ⟨b, 0 + j, none⟩ = some u := by
        intro j u hu
        have hj : j < vs.length := (List.getElem?_eq_some_iff.1 hu).1
        rw [cell_of_row w b (0 + j) cur 22 (0, 0) hh, Nat.zero_add, ← hu, ← h10, List.getElem?_take, if_pos hj]
        simp
      refine wpList_append_arg w hgd s x _ ho 22 i0 _ 1 24 Try.underlying36 hi0 hz0 hz1 hz2 rfl (by decide) b 0 vs.length c vs hs (by simp) hin ⟨q, 0, none⟩ 1 1 [.slice A1 k c1] hx rfl ?_ ?_ ?_ ?_ ?_ ?_ ?_
      · intro j u hu
        match j, hu with
        | 0, hu =>
          simp at hu
          subst hu
          exact hcell
        | j + 1, hu => simp at hu
      · intro u hu
        simp at hu
        subst hu
        rfl
      · intro _ j hj
        have hj0 : j = 0 := by simpa using hj
        subst hj0
        constructor
        · rw [cell_of_row w b _ cur 22 (0, 0) hh, Array.getElem?_eq_getElem (by omega)]
          rfl
        · simp [World.frozen?, hh]
      · unfold maxLen; omega
      · omega
      · intro _
        have e0 : w.setCells b (0 + vs.length * 1) [.slice A1 k c1] = w.setCell ⟨b, vs.length, none⟩ (.slice A1 k c1) := by
          rw [Nat.zero_add, Nat.mul_one]
          rfl
        rw [e0]
        have hh' := heap_setCell_same w b vs.length cur 22 (.slice A1 k c1) hh
        refine h _ c _ lo hi (.inr ⟨b, cur.setIfInBounds vs.length (.slice A1 k c1), rfl, h5, h6, hh', by simp; omega, h8, by simpa using h9, ?_⟩) (by simp; omega) (.inl ⟨rfl, rfl, hr, ⟨rfl, rfl, rfl, by simp, fun q hq hne => Below.heap_setCell w _ _ q (by intro e; subst e; exact hne rfl)⟩⟩)
        rw [Array.toList_setIfInBounds, List.length_append, List.length_singleton]
        have hcl : vs.length < cur.toList.length := by simp; omega
        rw [List.take_succ_eq_append_getElem (by simpa using hcl), List.take_set_of_le (Nat.le_refl _), h10]
        simp
      · intro hlt
        omega
  · have hfull : c = vs.length := by omega
    refine wpList_append_grows w hgd s x _ ho 22 i0 _ 1 24 Try.underlying36 hi0 hz0 hz1 hz2 rfl (by decide) A vs.length c vs hs (fun e => ?_) (by simp) (fun b e j u hu => ?_) ⟨q, 0, none⟩ 1 1 [.slice A1 k c1] hx rfl ?_ ?_ (by omega) (by unfold maxLen; omega) (by omega) hgrown
    · rcases hown with ⟨_, h2, h3⟩ | ⟨b, cur, e2, _⟩
      · subst h2
        exact ⟨rfl, h3⟩
      · rw [e] at e2; cases e2
    · have hrow := hown.row
      obtain ⟨b2, off2, e2, _, hc2⟩ := hrow (by have := (List.getElem?_eq_some_iff.1 hu).1; omega)
      rw [e] at e2
      simp only [Option.some.injEq] at e2
      subst e2
      have e3 : (⟨b2, off2, none⟩ : Addr).add j = ⟨b2, off2 + j, none⟩ := by unfold Addr.add; split <;> simp_all
      rw [e3]
      exact hc2 j u hu
    · intro j u hu
      match j, hu with
      | 0, hu =>
        simp at hu
        subst hu
        exact hcell
      | j + 1, hu => simp at hu
    · intro u hu
      simp at hu
      subst hu
      rfl

theorem KeepBut.below {w w' : World} {g b : Nat} (h : KeepBut (some ⟨g, 0, Option.none⟩) w w') (hb : b ≤ g) (hw : b ≤ w.heap.size) : Below b w w' :=
  ⟨h.os, h.tape, h.output, h.size, fun q hq => h.block q (by omega) (by intro e; simp only [Option.some.injEq, Addr.mk.injEq, and_true] at e; omega)⟩

/-! ### The packed ones, by their places -/
def pkI (rs : List (List Int)) : Nat → List Nat
  | 0 => []
  | k + 1 => if (pkL rs k).any (meetB (rs.getD k [])) then pkI rs k else pkI rs k ++ [k]
theorem pkI_map (rs : List (List Int)) : ∀ k, pkL rs k = (pkI rs k).map (fun i => rs.getD i [])
  | 0 => rfl
  | k + 1 => by
    rw [pkL, pkI]
    split
    · exact pkI_map rs k
    · rw [List.map_append, ← pkI_map rs k]; rfl
theorem pkI_lt (rs : List (List Int)) : ∀ k, ∀ i ∈ pkI rs k, i < k
  | 0, i, h => by cases h
  | k + 1, i, h => by
    rw [pkI] at h
    split at h
    · exact Nat.lt_succ_of_lt (pkI_lt rs k i h)
    · rcases List.mem_append.1 h with h | h
      · exact Nat.lt_succ_of_lt (pkI_lt rs k i h)
      · rw [List.mem_singleton] at h; omega
theorem pkI_inc (rs : List (List Int)) : ∀ k, (pkI rs k).Pairwise (· < ·)
  | 0 => List.Pairwise.nil
  | k + 1 => by
    rw [pkI]
    split
    · exact pkI_inc rs k
    · rw [List.pairwise_append]
      refine ⟨pkI_inc rs k, List.pairwise_singleton _ _, fun a ha b hb => ?_⟩
      rw [List.mem_singleton] at hb
      rw [hb]
      exact pkI_lt rs k a ha
def hsI (hs : List (Option Addr × Nat)) (rs : List (List Int)) (k : Nat) : List (Option Addr × Nat) := (pkI rs k).map fun i => hs.getD i (none, 0)
theorem hsI_length (hs : List (Option Addr × Nat)) (rs : List (List Int)) (k : Nat) : (hsI hs rs k).length = (pkL rs k).length := by rw [pkI_map]; simp [hsI]
def pkV (hs : List (Option Addr × Nat)) (rs : List (List Int)) (k : Nat) : List Value := rowVs (hsI hs rs k) (pkL rs k)
theorem pkV_length (hs : List (Option Addr × Nat)) (rs : List (List Int)) (k : Nat) : (pkV hs rs k).length = (pkL rs k).length := rowVs_length _ _ (hsI_length hs rs k)
theorem pk_meets (hs : List (Option Addr × Nat)) (rs : List (List Int)) (k : Nat) (h : (pkL rs k).any (meetB (rs.getD k [])) = true) : pkL rs (k + 1) = pkL rs k ∧ pkV hs rs (k + 1) = pkV hs rs k := by
  have e1 : pkL rs (k + 1) = pkL rs k := by rw [pkL, if_pos h]
  refine ⟨e1, ?_⟩
  unfold pkV hsI
  rw [e1, pkI, if_pos h]
theorem pk_new (hs : List (Option Addr × Nat)) (rs : List (List Int)) (k : Nat) (h : (pkL rs k).any (meetB (rs.getD k [])) = false) (h1 : k < hs.length) (h2 : k < rs.length) :
    pkL rs (k + 1) = pkL rs k ++ [rs[k]] ∧ pkV hs rs (k + 1) = pkV hs rs k ++ [.slice hs[k].1 rs[k].length hs[k].2] := by
  have hf : ¬ (pkL rs k).any (meetB (rs.getD k [])) = true := by rw [h]; simp
  have e1 : pkL rs (k + 1) = pkL rs k ++ [rs[k]] := by rw [pkL, if_neg hf, getD_lt _ _ _ h2]
  refine ⟨e1, ?_⟩
  have e2 : hsI hs rs (k + 1) = hsI hs rs k ++ [hs[k]] := by
    unfold hsI
    rw [pkI, if_neg hf, List.map_append, List.map_singleton, getD_lt _ _ _ h1]
  unfold pkV
  rw [e1, e2, rowVs_snoc _ _ _ _ (hsI_length hs rs k)]
theorem hsI_get (hs : List (Option Addr × Nat)) (rs : List (List Int)) (k i : Nat) (hk : k ≤ rs.length) (e : hs.length = rs.length) (h1 : i < (hsI hs rs k).length) (h2 : i < (pkL rs k).length) :
    ∃ j, ∃ (hj : j < hs.length) (hj' : j < rs.length) (hi : i < (pkI rs k).length), (pkI rs k)[i] = j ∧ (hsI hs rs k)[i] = hs[j] ∧ (pkL rs k)[i] = rs[j] := by
  have hi : i < (pkI rs k).length := by simpa [hsI] using h1
  have hj := pkI_lt rs k _ (List.getElem_mem hi)
  refine ⟨(pkI rs k)[i], by omega, by omega, hi, rfl, ?_, ?_⟩
  · have : (hsI hs rs k)[i]? = some (hs[(pkI rs k)[i]]'(by omega)) := by
      unfold hsI
      rw [List.getElem?_map, List.getElem?_eq_getElem hi, Option.map_some, getD_lt]
    rw [List.getElem?_eq_getElem h1] at this
    exact Option.some.inj this
  · have : (pkL rs k)[i]? = some (rs[(pkI rs k)[i]]'(by omega)) := by
      rw [pkI_map, List.getElem?_map, List.getElem?_eq_getElem hi, Option.map_some, getD_lt]
    rw [List.getElem?_eq_getElem h2] at this
    exact Option.some.inj this
theorem pk_inner {w : World} {lo hi : Nat} {hs : List (Option Addr × Nat)} {rs : List (List Int)} (k : Nat) (hk : k ≤ rs.length) (e : hs.length = rs.length) (h : Inner w lo hi hs rs) : Inner w lo hi (hsI hs rs k) (pkL rs k) := by
  refine ⟨fun i h1 h2 => ?_, fun i j h1 h2 hij => ?_⟩
  · obtain ⟨x, hx, hx', _, _, e1, e2⟩ := hsI_get hs rs k i hk e h1 h2
    rw [e1, e2]
    exact h.1 x hx hx'
  · obtain ⟨x, hx, hx', hi, ex, e1, _⟩ := hsI_get hs rs k i hk e h1 (by rw [← hsI_length hs rs k]; exact h1)
    obtain ⟨y, hy, hy', hj, ey, e2, _⟩ := hsI_get hs rs k j hk e h2 (by rw [← hsI_length hs rs k]; exact h2)
    have hne : x ≠ y := by
      intro exy
      have hp := pkI_inc rs k
      rw [List.pairwise_iff_getElem] at hp
      rcases Nat.lt_or_gt_of_ne hij with hlt | hlt
      · have := hp i j hi hj hlt; omega
      · have := hp j i hj hi hlt; omega
    rw [e1, e2]
    exact h.2 x y hx hy hne
/-- What has been packed reads as a table. -/
theorem pk_table {w : World} {lo hi lo' hi' d : Nat} {B : Option Addr} {hs : List (Option Addr × Nat)} {rs : List (List Int)} (k : Nat) (hk : k ≤ rs.length) (e : hs.length = rs.length) (h : Inner w lo hi hs rs) (hhi : hi ≤ w.heap.size)
    (ho : Own w lo' hi' 22 B d (pkV hs rs k)) (hhi' : hi' ≤ w.heap.size) : Table w w.heap.size B (pkL rs k) :=
  ⟨hsI hs rs k, hsI_length hs rs k, ho.row.mono hhi', fun i h1 h2 => ((pk_inner k hk e h).1 i h1 h2).row.mono hhi⟩
theorem pk_ownT {w : World} {lo hi lo' hi' d b : Nat} {B : Option Addr} {hs : List (Option Addr × Nat)} {rs : List (List Int)} (k : Nat) (hk : k ≤ rs.length) (e : hs.length = rs.length) (h : Inner w lo hi hs rs) (hhi : hi ≤ w.heap.size)
    (ho : Own w lo' hi' 22 B d (pkV hs rs k)) (hhi' : hi' ≤ w.heap.size) (h1 : b ≤ lo) (h2 : b ≤ lo') : OwnT w b w.heap.size B d (pkL rs k) :=
  ⟨hsI hs rs k, hsI_length hs rs k, ho.mono h2 hhi', (pk_inner k hk e h).mono h1 hhi⟩
end Go.Proofs.Ytkdfjkocfejfjaa
