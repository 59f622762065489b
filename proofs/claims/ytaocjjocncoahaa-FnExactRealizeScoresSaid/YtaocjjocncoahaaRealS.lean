/- RealizeScores on the reference's side: the least, the rows of words. -/
import Derived.Test.YtaocjjocncoahaaRealQ
import Derived.Test.YtaocjjocncoahaaOrd
import Derived.Test.YtaocjjocncoahaaBut3
import Derived.Test.YtaocjjocncoahaaTRes
import Derived.Test.YtaocjjocncoahaaSort
import Derived.Test.YtaocjjocncoahaaOf
namespace Go.Proofs.Ytaocjjocncoahaa
open Go.RowKit

def boolsR (bs : List Bool) : List Value := bs.map Value.bool
theorem boolR_info : (Try.prog.info? 4).map (fun i => (i.zero, i.size, i.bytes)) = some (some (.bool false), 1, 1) := by kernel_rfl
/-- make([]bool, n). -/
theorem make_boolsR (n : Nat) (hn : n ≤ 1099511627776) (W : World) :
    (Instr.makeSlice 51 (.int .i64 (n : Int)) (.int .i64 (n : Int))).run Try.prog W = .ok (.slice (some ⟨W.heap.size, 0, none⟩) n n) (W.alloc (.cells (madeCells #[.bool false] n) 4)) := by
  obtain ⟨i0, hi, hz0, hz1, hz2⟩ := info_parts boolR_info
  have h := run_make (P := Try.prog) W 51 4 i0 _ Try.underlying51 hi hz0 .i64 .i64 (n : Int) (n : Int) (by omega) (by omega) (by rw [hz2]; omega) (by omega)
  rw [hz1] at h
  simpa [Value.cells] using h
theorem own_boolsR (w : World) (lo n : Nat) (hlo : lo ≤ w.heap.size) (hn : n ≤ 1099511627776) :
    Own (w.alloc (.cells (madeCells #[.bool false] n) 4)) lo (w.heap.size + 1) 4 (some ⟨w.heap.size, 0, none⟩) n (boolsR (List.replicate n false)) := by
  have h := Own.made w lo 4 (madeCells #[.bool false] n) hlo (by rw [size_madeCells]; unfold maxLen; omega)
  rw [size_madeCells, toList_madeCells_one] at h
  simpa [boolsR] using h
theorem boolsR_set (bs : List Bool) (x : Nat) (b : Bool) : (boolsR bs).set x (.bool b) = boolsR (bs.set x b) := by unfold boolsR; rw [List.map_set]

def bl (n : Nat) (H : Nat → Bool) : List Value := boolsR ((List.range n).map H)
theorem bl_length (n : Nat) (H : Nat → Bool) : (bl n H).length = n := by simp [bl, boolsR]
theorem bl_get (n : Nat) (H : Nat → Bool) (k : Nat) (h : k < (bl n H).length) : (bl n H)[k] = .bool (H k) := by simp [bl, boolsR]
theorem bl_set (n : Nat) (H : Nat → Bool) (a : Nat) (b : Bool) : (bl n H).set a (.bool b) = bl n (fun x => if x = a then b else H x) := by
  unfold bl
  rw [boolsR_set]
  congr 1
  apply List.ext_getElem
  · simp
  · intro i h1 h2
    rw [List.getElem_set]
    by_cases e : a = i
    · subst e; simp
    · have : ¬ i = a := fun h => e h.symm
      simp [e, this]
theorem bl_congr (n : Nat) (H H' : Nat → Bool) (h : ∀ x, x < n → H x = H' x) : bl n H = bl n H' := by
  unfold bl
  rw [List.map_congr_left fun x hx => h x (List.mem_range.1 hx)]
theorem bl_false (n : Nat) : boolsR (List.replicate n false) = bl n (fun _ => false) := by
  unfold bl
  rw [List.map_const', List.length_range]
theorem Row.bool {w : World} {B n : Nat} {A : Option Addr} {H : Nat → Bool} (h : Row w B A (bl n H)) {k : Nat} (hk : k < n) : ∃ b off, A = some ⟨b, off, none⟩ ∧ b < B ∧ w.cell? ⟨b, off + k, none⟩ = some (.bool (H k)) := by
  obtain ⟨b, off, e, hb, hc⟩ := h.at_ (k := k) (by rw [bl_length]; exact hk)
  exact ⟨b, off, e, hb, by rw [hc, bl_get]⟩
theorem Own.bool {w : World} {lo hi n c : Nat} {t : TypeId} {A : Option Addr} {H : Nat → Bool} (h : Own w lo hi t A c (bl n H)) {k : Nat} (hk : k < n) : ∃ g, A = some ⟨g, 0, none⟩ ∧ lo ≤ g ∧ g < hi ∧ w.cell? ⟨g, k, none⟩ = some (.bool (H k)) ∧ w.frozen? ⟨g, k, none⟩ = false := by
  obtain ⟨g, e, a, b, hc, hf⟩ := h.at_ (k := k) (by rw [bl_length]; exact hk)
  exact ⟨g, e, a, b, by rw [hc, bl_get], hf⟩
theorem leastI_bd (s : Nat → Int) (H : Nat → Bool) (k : Nat) (hk : k ≤ 16) : leastI s H k = -1 ∨ ∃ b : Nat, leastI s H k = (b : Int) ∧ b < k := by
  rcases leastI_is s H k hk with ⟨_, h⟩ | ⟨b, h, hb, _⟩
  · exact .inl h
  · exact .inr ⟨b, h, hb⟩
set_option maxHeartbeats 800000 in
theorem sLeast_any (A B : Option Addr) (c d n : Nat) (s : Nat → Int) (H : Nat → Bool) (w : World) (h : Row w w.heap.size A (ints (fz n s))) (hh : Row w w.heap.size B (bl n H)) (n1 : 1 ≤ n) (n8 : n ≤ 8) :
    Calls Try.prog 39 #[.slice A n c, .slice B n d] w fun e w' => e = .returned (.int .i64 (leastI s H n)) ∧ w = w' := by
  have HST := Lib.hid (show ∀ k, leastI s H (k + 1) = if H k = false ∧ (leastI s H k < 0 ∨ s k < s (leastI s H k).toNat) then (k : Int) else leastI s H k from fun _ => rfl)
  have HBD := Lib.hid (fun k hk => leastI_bd s H k hk)
  have HZ : Hid (leastI s H 0 = -1) := Lib.hid rfl
  go_enter Try.func39, Try.ntmps39
  go_wp2
  go_loop [5, 10] (fun v i => ∃ k : Nat, k ≤ n ∧ i = .int .i64 (k : Int) ∧ v = .int .i64 (leastI s H k)) (fun _ i => n - (intOf i).toNat)
  case atStart => exact ⟨0, Nat.zero_le _, rfl, by rw [HZ.out]⟩
  case round =>
    obtain ⟨k, hk, rfl, rfl⟩ := hrel
    by_cases hlt : k < n
    · obtain ⟨g, off, eA, _, ck⟩ := h.int (k := k) (by rw [fz_length]; exact hlt)
      obtain ⟨g2, off2, eB, _, dk⟩ := hh.bool (k := k) hlt
      rw [fz_get] at ck
      have HS := Lib.hid (HST.out k)
      cases hH : H k with
      | true =>
        rw [hH] at dk
        have hs : Hid (leastI s H (k + 1) = leastI s H k) := Lib.hid (by rw [HS.out, hH]; simp)
        subst eA eB
        clear hH
        go_wp2
        go_round
        case rel => exact ⟨k + 1, by omega, by go_num, by rw [hs.out]⟩
        case measure => simp [intOf]; omega
      | false =>
        rw [hH] at dk
        rcases HBD.out k (by omega) with hb | ⟨b, hb, hbk⟩
        · have hs : Hid (leastI s H (k + 1) = (k : Int)) := Lib.hid (by rw [HS.out, hH, hb]; simp)
          rw [hb]
          subst eA eB
          clear hH hb
          go_wp2
          go_round
          case rel => exact ⟨k + 1, by omega, by go_num, by rw [hs.out]⟩
          case measure => simp [intOf]; omega
        · obtain ⟨g', off', eA', _, cb⟩ := h.int (k := b) (by rw [fz_length]; omega)
          rw [fz_get] at cb
          have hbn : b < n := by omega
          have HBN : Hid ((b : Int).toNat = b) := Lib.hid (Int.toNat_natCast b)
          rw [eA] at eA'
          simp only [Option.some.injEq, Addr.mk.injEq, and_true] at eA'
          obtain ⟨rfl, rfl⟩ := eA'
          by_cases hc : s k < s b
          · have hs : Hid (leastI s H (k + 1) = (k : Int)) := Lib.hid (by rw [HS.out, hH, hb, HBN.out, if_pos ⟨rfl, .inr hc⟩])
            rw [hb]
            subst eA eB
            clear hH hb
            go_wp2
            go_round
            case rel => exact ⟨k + 1, by omega, by go_num, by rw [hs.out]⟩
            case measure => simp [intOf]; omega
          · have hs : Hid (leastI s H (k + 1) = (b : Int)) := Lib.hid (by rw [HS.out, hH, hb, HBN.out, if_neg (fun h => by rcases h.2 with h | h; omega; exact hc h)])
            rw [hb]
            subst eA eB
            clear hH hb
            go_wp2
            go_round
            case rel => exact ⟨k + 1, by omega, by go_num, by rw [hs.out]⟩
            case measure => simp [intOf]; omega
    · obtain rfl : k = n := by omega
      go_wp2
      go_ret
      exact ⟨rfl, rfl⟩
/-- append(out, list...), of words. -/
theorem wpList_pushAllB {ops : Array Oper} {rest : List Oper} {o : Oper} {a : Act} {Q : Exit → Act → World → Prop} {w : World} (hgd : o.guard = none) (s x : Operand)
    (ho : o.op = .call { callee := .builtin .append, args := #[s, x], argTypes := #[51, 51] })
    (lo hi B : Nat) (A A2 : Option Addr) (c n m c2 : Nat) (zs ys : List Bool) (hs : a.eval s = .slice A n c) (hx : a.eval x = .slice A2 m c2)
    (hn : n = zs.length) (hm : m = ys.length) (hown : Own w lo hi 4 A c (boolsR zs)) (hrow : Row w B A2 (boolsR ys)) (h0 : 0 < m) (hl : n + m ≤ 1099511627776) (hlo : lo ≤ w.heap.size)
    (h : ∀ A' c' w', Own w' lo w'.heap.size 4 A' c' (boolsR (zs ++ ys)) → Only lo hi w w' → wpList Try.prog ops Q rest (a.put o.dst (.slice A' (n + m) c')) w') : wpList Try.prog ops Q (o :: rest) a w := by
  refine wpList_plain hgd fun _ hK => ?_
  subst hn hm
  obtain ⟨i0, hi0, hz0, hz1, hz2⟩ := info_parts boolR_info
  have bl0 : ∀ l : List Bool, (boolsR l).length = l.length := fun l => by simp [boolsR]
  have hown' := hown.ownsRow
  rw [bl0] at hown'
  obtain ⟨b, off, rfl, hb, hc⟩ := hrow (by rw [bl0]; exact h0)
  refine wp_append_own w s x _ ho lo 4 i0 _ 1 1 Try.underlying51 hi0 hz0 hz1 hz2 rfl (by decide) _ zs.length (boolsR zs) hs hown' ⟨b, off, none⟩ ys.length c2 (boolsR ys) hx (by simp [boolsR]) ?_ ?_ ?_ ?_ hlo ?_
  · intro j u hu
    have e : (⟨b, off, none⟩ : Addr).add j = ⟨b, off + j, none⟩ := by unfold Addr.add; split <;> simp_all
    rw [e]
    exact hc j u hu
  · intro u hu
    unfold boolsR at hu
    rw [List.mem_map] at hu
    obtain ⟨z, _, rfl⟩ := hu
    rfl
  · unfold maxLen; omega
  · omega
  · intro v' w' h1 h2 _
    obtain ⟨A', c', rfl, hlen, ho'⟩ := own_of_ownsRow h1
    have e : (boolsR zs ++ boolsR ys).length = zs.length + ys.length := by simp [boolsR]
    rw [e]
    refine hK _ _ (h A' c' w' ?_ (only_of_grown hown h2))
    simpa [boolsR] using ho'
end Go.Proofs.Ytaocjjocncoahaa
