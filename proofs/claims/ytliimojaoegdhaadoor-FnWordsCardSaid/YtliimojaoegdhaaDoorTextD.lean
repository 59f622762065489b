/- PadZeros, Join, SplitAny, walked on both sides. -/
import Derived.Test.YtliimojaoegdhaaDoorStrs
import Derived.Test.YtliimojaoegdhaaDoorShelfD
import Derived.Lib.IndexAny
import Derived.Lib.Repeat
namespace Go.Proofs.YtliimojaoegdhaaDoor
open Go.RowKit

theorem cell_newS (w : World) (s : ByteArray) : (w.alloc (.cells #[.string s] 9)).cell? ⟨w.heap.size, 0, none⟩ = some (.string s) := by go_simp
theorem below_onlyS {B lo hi : Nat} {a w w' : World} (h : Below B a w) (ho : Only lo hi w w') (h1 : B ≤ lo) (h2 : B ≤ w.heap.size) : Below B a w' := below_only h ho h1 h2
theorem below_trans' {a b c : World} (h : Below a.heap.size a b) (k : Below b.heap.size b c) : Below a.heap.size a c := below_trans h k

/-! ### PadZeros -/
def zk (k : Nat) : ByteArray := ⟨(List.replicate k (48 : UInt8)).toArray⟩
theorem zk_size (k : Nat) : (zk k).size = k := by unfold zk; rw [mk_size]; simp
theorem zk_zero (s : ByteArray) : zk 0 ++ s = s := by apply ByteArray.ext; simp [zk, ByteArray.data_append]
theorem zk_succ (s : ByteArray) (k : Nat) : ByteArray.mk #[48] ++ (zk k ++ s) = zk (k + 1) ++ s := by
  apply ByteArray.ext
  simp [zk, ByteArray.data_append]
  rw [← Array.append_assoc]
  congr 1
  apply Array.ext'
  simp [List.replicate_succ]
def rPadZeros (s : ByteArray) (n : Int) : ByteArray := if n > 2000 then s else zk (n - (s.size : Int)).toNat ++ s
theorem repeat_zk (k : Nat) : (⟨(Lib.repeatL [48] k).toArray⟩ : ByteArray) = zk k := by
  unfold zk
  congr 2
  induction k with
  | zero => rfl
  | succ k ih => rw [Lib.repeatL, ih, List.replicate_succ]; rfl

/-! ### Join -/
def joinL (l : List ByteArray) (by' : ByteArray) : ByteArray := ⟨(Lib.join (l.map (·.data.toList)) by'.data.toList).toArray⟩
theorem lib_join_snoc (xs : List (List UInt8)) (x sep : List UInt8) (h : xs ≠ []) : Lib.join (xs ++ [x]) sep = Lib.join xs sep ++ sep ++ x := by
  cases xs with
  | nil => exact absurd rfl h
  | cons y ys =>
    rw [List.cons_append, Lib.join_cons, Lib.join_cons]
    unfold Lib.joinTail
    simp
theorem joinL_one (x b : ByteArray) : joinL [x] b = x := by
  unfold joinL
  rw [List.map_singleton, Lib.join_one]
theorem joinL_nil (b : ByteArray) : joinL [] b = ⟨#[]⟩ := rfl
theorem joinL_snoc (l : List ByteArray) (x b : ByteArray) (h : l ≠ []) : joinL (l ++ [x]) b = joinL l b ++ b ++ x := by
  unfold joinL
  rw [List.map_append, List.map_singleton, lib_join_snoc _ _ _ (by simpa using h)]
  apply ByteArray.ext
  simp [ByteArray.data_append]
theorem joinL_size (b : ByteArray) : ∀ (l : List ByteArray), (joinL l b).size ≤ (l.map ByteArray.size).sum + l.length * b.size := by
  intro l
  have : ∀ k, k ≤ l.length → (joinL (l.take k) b).size ≤ ((l.take k).map ByteArray.size).sum + k * b.size := by
    intro k
    induction k with
    | zero => intro _; simp [joinL_nil]; rfl
    | succ k ih =>
      intro hk
      have ih := ih (by omega)
      rw [List.take_succ_eq_append_getElem (show k < l.length by omega), List.map_append, List.sum_append, Nat.add_mul, Nat.one_mul]
      by_cases h0 : k = 0
      · subst h0
        simp only [List.take_zero, List.nil_append, joinL_one, List.map_nil, List.sum_nil, List.map_singleton, List.sum_singleton]
        omega
      · rw [joinL_snoc _ _ _ (List.ne_nil_of_length_pos (by rw [List.length_take]; omega)), ByteArray.size_append, ByteArray.size_append]
        simp only [List.map_singleton, List.sum_singleton]
        omega
  have h := this l.length (Nat.le_refl _)
  rwa [List.take_length] at h
theorem joinL_bd (l : List ByteArray) (b : ByteArray) (k : Nat) (hk : k ≤ l.length) (h : l.length + szs l l.length ≤ 1048576) (hb : b.size ≤ 1048576) : (joinL (l.take k) b).size ≤ 1099512676352 := by
  have h1 := joinL_size b (l.take k)
  have h2 := szs_mono l k hk
  unfold szs at h2 h
  have h3 : (l.take k).length * b.size ≤ 1048576 * 1048576 := Nat.mul_le_mul (by rw [List.length_take]; omega) hb
  omega
theorem iJoin_any (A : Option Addr) (c : Nat) (l : List ByteArray) (b : ByteArray) (w : World) (h : Row w w.heap.size A (strs l)) (hl : l.length + szs l l.length ≤ 1048576) (hb : b.size ≤ 1048576) (hc : l.length ≤ c) :
    Calls Tryd.prog 29 #[.slice A l.length c, .string b] w fun e w' => e = .returned (.string (joinL l b)) ∧ Below w.heap.size w w' := by
  have hbd := joinL_bd l b l.length (Nat.le_refl _) hl hb
  rw [List.take_length] at hbd
  by_cases h0 : l.length = 0
  · have hn : l = [] := List.length_eq_zero_iff.1 h0
    subst hn
    have HE : Hid (joinL [] b = ⟨#[]⟩) := Lib.hid rfl
    have HC := Lib.hid (fun W' => Tryd.strings_Join_none A c b W')
    clear hbd h0
    go_enter Tryd.func29, Tryd.ntmps29
    go_wp2_with fail
    refine (HC.out _).mono ?_
    rintro e w1 ⟨rfl, rfl⟩
    go_wp2
    go_ret
    exact ⟨ret_string HE.out.symm, Below.refl _ _⟩
  · obtain ⟨b1, off, rfl, hlt, hcc⟩ := h (by rw [strs_length]; omega)
    have HC := Lib.hid (fun W' hcells hbk => Tryd.strings_Join b1 off c l b W' hcells hbk (by omega) hc (by
      have : (Lib.join (l.map (·.data.toList)) b.data.toList).length = (joinL l b).size := by unfold joinL; rw [mk_size]
      omega))
    have HCC := Lib.hid (fun (j : Nat) (x : ByteArray) (hx : l[j]? = some x) => hcc j (.string x) (by unfold strs; rw [List.getElem?_map, hx]; rfl))
    clear hcc h
    go_enter Tryd.func29, Tryd.ntmps29
    go_wp2_with fail
    refine (HC.out _ HCC.out hlt).mono ?_
    rintro e w1 ⟨rfl, hb⟩
    go_wp2
    go_ret
    exact ⟨rfl, hb⟩

/-! ### SplitAny -/
def hitB (b : ByteArray) (x : UInt8) : Bool := b.data.toList.contains x
/-- The pieces behind i letters, and where the next begins. -/
def spSt (s b : ByteArray) : Nat → List ByteArray × Nat
  | 0 => ([], 0)
  | i + 1 => if hitB b (s.data.toList.getD i 0) then ((spSt s b i).1 ++ [s.extract (spSt s b i).2 i], i + 1) else spSt s b i
def rSplitAny (s b : ByteArray) : List ByteArray := (spSt s b s.size).1 ++ [s.extract (spSt s b s.size).2 s.size]
theorem spSt_bd (s b : ByteArray) (i : Nat) : (spSt s b i).2 ≤ i ∧ (spSt s b i).1.length ≤ i := by
  induction i with
  | zero => simp [spSt]
  | succ i ih =>
    rw [spSt]
    split
    · simp; omega
    · omega
theorem rSplitAny_len (s b : ByteArray) : 1 ≤ (rSplitAny s b).length ∧ (rSplitAny s b).length ≤ s.size + 1 := by
  have := spSt_bd s b s.size
  unfold rSplitAny
  rw [List.length_append, List.length_singleton]
  omega
theorem byte_at (s : ByteArray) (i : Nat) (h : i < s.size) : s[i] = s.data.toList.getD i 0 := by
  rw [getD_lt _ _ _ (by simpa using h)]
  rfl
set_option maxHeartbeats 800000 in
theorem iSplitAny_any (s b : ByteArray) (w : World) (hs : s.size ≤ 1048576) :
    Calls Tryd.prog 30 #[.string s, .string b] w (NewStrs w (rSplitAny s b)) := by
  have HB := Lib.hid (fun i => spSt_bd s b i)
  have HR : Hid (rSplitAny s b = (spSt s b s.size).1 ++ [s.extract (spSt s b s.size).2 s.size]) := Lib.hid rfl
  have HC := Lib.hid (fun (x : UInt8) W' => (by
    have hx := Tryd.strings_IndexByte b (x.toNat : Int) W'
    have e : (((x.toNat : Nat) : Int)).toNat.toUInt8 = x := by simp
    rw [e] at hx
    exact hx.mono (fun _ _ h => ⟨h.1, h.2.symm⟩) : Calls Tryd.prog 57 #[.string b, .int .u8 (x.toNat : Int)] W' fun e w' => e = .returned (.int .i64 (Lib.indexByte b.data.toList x)) ∧ W' = w'))
  go_enter Tryd.func30, Tryd.ntmps30
  go_wp2
  go_loopw [5, 6, 10] (fun v f i wr => ∃ (k n d : Nat) (B : Option Addr), k ≤ s.size ∧ i = .int .i64 (k : Int) ∧ f = .int .i64 ((spSt s b k).2 : Nat) ∧ v = .slice B n d ∧ Hid (n = (spSt s b k).1.length) ∧ n ≤ k ∧ Own wr w.heap.size wr.heap.size 9 B d (strs (spSt s b k).1) ∧ Below w.heap.size w wr) (fun _ _ i _ => s.size - (intOf i).toNat)
  case atStart => exact ⟨0, 0, 0, none, Nat.zero_le _, rfl, rfl, rfl, Lib.hid rfl, Nat.le_refl _, Own.nil _ _ _ _, Below.refl _ _⟩
  case round =>
    obtain ⟨k, n, d, B, hk, rfl, rfl, rfl, HN, hn, ho, hb⟩ := hrel
    have HO := Lib.hid ho
    clear ho
    have hbz := hb.size
    obtain ⟨b1, b2⟩ := HB.out k
    by_cases hlt : k < s.size
    · have hat := byte_at s k hlt
      have HG : Hid (spSt s b (k + 1) = if hitB b (s.data.toList.getD k 0) then ((spSt s b k).1 ++ [s.extract (spSt s b k).2 k], k + 1) else spSt s b k) := Lib.hid rfl
      have HIB := Lib.hid (fun x => Lib.contains_iff_indexByte b.data.toList x)
      rw [← hat] at HG
      have HAT := Lib.hid hat
      clear hat
      have hcx := HIB.out s[k]
      have HC1 := Lib.hid (fun W' => HC.out s[k] W')
      generalize hst : spSt s b k = st at *
      obtain ⟨out, from'⟩ := st
      have HST := Lib.hid hst
      clear hst
      simp only at b1 b2 HN HO
      cases hh : hitB b s[k] with
      | true =>
        have HS : Hid (spSt s b (k + 1) = (out ++ [s.extract from' k], k + 1)) := Lib.hid (by rw [HG.out, if_pos hh])
        have hge : (0 : Int) ≤ Lib.indexByte b.data.toList s[k] := by
          unfold hitB at hh
          rw [hh] at hcx
          exact of_decide_eq_true hcx.symm
        clear hh hcx HG
        generalize Lib.indexByte b.data.toList s[k] = z at *
        go_wp2_with fail
        refine (HC1.out _).mono ?_
        rintro e w1 ⟨rfl, rfl⟩
        go_wp2_with (at_builtin; refine wpList_pushS rfl (.tmp 19) (.tmp 24) rfl w.heap.size wr.heap.size B d n out (s.extract from' k) wr.heap.size rfl rfl HN.out ?c1 (cell_newS _ _) (by omega) ?c3 ?_)
        case c1 => exact HO.out.alloc (Nat.le_refl _) _
        case c3 => first | omega | (simp; omega)
        intro A' c' w4 ho4 hg4
        have HO4 := Lib.hid ho4
        have hb4 := below_onlyS (hb.alloc hbz (.cells #[.string (s.extract from' k)] 9)) hg4 (Nat.le_refl _) (by simp; omega)
        clear ho4 hg4
        go_wp2
        go_roundw
        case rel => exact ⟨k + 1, n + 1, c', A', by omega, by go_num, by rw [HS.out]; go_num, rfl, Lib.hid (by rw [HS.out, List.length_append, HN.out]; rfl), by omega, by rw [HS.out]; exact HO4.out, hb4⟩
        case measure => simp [intOf]; omega
      | false =>
        have HS : Hid (spSt s b (k + 1) = (out, from')) := Lib.hid (by rw [HG.out, if_neg (by rw [hh]; simp), ← HST.out])
        have hge : ¬ (0 : Int) ≤ Lib.indexByte b.data.toList s[k] := by
          unfold hitB at hh
          rw [hh] at hcx
          exact of_decide_eq_false hcx.symm
        clear hh hcx HG
        generalize Lib.indexByte b.data.toList s[k] = z at *
        go_wp2_with fail
        refine (HC1.out _).mono ?_
        rintro e w1 ⟨rfl, rfl⟩
        go_wp2
        go_roundw
        case rel => exact ⟨k + 1, n, d, B, by omega, by go_num, by rw [HS.out], rfl, Lib.hid (by rw [HS.out]; exact HN.out), by omega, by rw [HS.out]; exact HO.out, hb⟩
        case measure => simp [intOf]; omega
    · obtain rfl : k = s.size := by omega
      generalize hst : spSt s b s.size = st at *
      obtain ⟨out, from'⟩ := st
      have HST := Lib.hid hst
      clear hst
      simp only at b1 b2 HN HO
      go_wp2_with (at_builtin; refine wpList_pushS rfl (.tmp 29) (.tmp 33) rfl w.heap.size wr.heap.size B d n out (s.extract from' s.size) wr.heap.size rfl rfl HN.out ?c1 (cell_newS _ _) (by omega) ?c3 ?_)
      case c1 => exact HO.out.alloc (Nat.le_refl _) _
      case c3 => first | omega | (simp; omega)
      intro A' c' w4 ho4 hg4
      have HO4 := Lib.hid ho4
      have hb4 := below_onlyS (hb.alloc hbz (.cells #[.string (s.extract from' s.size)] 9)) hg4 (Nat.le_refl _) (by simp; omega)
      clear ho4 hg4
      go_wp2
      go_ret
      rw [HR.out]
      exact ⟨A', c', by rw [List.length_append, HN.out]; rfl, HO4.out, hb4⟩
theorem hit_yes (b : ByteArray) (x : UInt8) (j : Nat) (hj : j < b.size) (h : b[j] = x) : hitB b x = true := by
  unfold hitB
  rw [List.contains_iff_mem]
  have : b.data.toList[j]'(by simpa using hj) = x := h
  rw [← this]
  exact List.getElem_mem _
theorem hit_no (b : ByteArray) (x : UInt8) (h : ∀ j (hj : j < b.size), j < b.size → b[j] ≠ x) : hitB b x = false := by
  unfold hitB
  rw [Bool.eq_false_iff]
  intro hc
  rw [List.contains_iff_mem] at hc
  obtain ⟨j, hj, e⟩ := List.mem_iff_getElem.1 hc
  exact h j (by simpa using hj) (by simpa using hj) e
set_option maxHeartbeats 800000 in
theorem sSplitAny_any (s b : ByteArray) (w : World) (hs : s.size ≤ 1048576) (hbs : b.size ≤ 1048576) :
    Calls Tryd.prog 33 #[.string s, .string b] w (NewStrs w (rSplitAny s b)) := by
  have HB := Lib.hid (fun i => spSt_bd s b i)
  have HR : Hid (rSplitAny s b = (spSt s b s.size).1 ++ [s.extract (spSt s b s.size).2 s.size]) := Lib.hid rfl
  go_enter Tryd.func33, Tryd.ntmps33
  go_wp2
  have hst0 : Own (w.alloc (.cells #[] 9)) w.heap.size (w.heap.size + 1) 9 (some ⟨w.heap.size, 0, none⟩) 0 (strs []) := Own.made w w.heap.size 9 #[] (Nat.le_refl _) (by simp)
  have HST0 := Lib.hid hst0
  clear hst0
  go_loopw [5, 6, 7] (fun v f i wr => ∃ (k n d : Nat) (B : Option Addr), k ≤ s.size ∧ i = .int .i64 (k : Int) ∧ f = .int .i64 ((spSt s b k).2 : Nat) ∧ v = .slice B n d ∧ Hid (n = (spSt s b k).1.length) ∧ n ≤ k ∧ Own wr w.heap.size wr.heap.size 9 B d (strs (spSt s b k).1) ∧ Below w.heap.size w wr) (fun _ _ i _ => s.size - (intOf i).toNat)
  case atStart => exact ⟨0, 0, 0, _, Nat.zero_le _, rfl, rfl, rfl, Lib.hid rfl, Nat.le_refl _, HST0.out.mono (Nat.le_refl _) (by simp), (Below.refl _ _).alloc (Nat.le_refl _) _⟩
  case round =>
    clear HST0
    obtain ⟨k, n, d, B, hk, rfl, rfl, rfl, HN, hn, ho, hb⟩ := hrel
    have HO := Lib.hid ho
    clear ho
    have hbz := hb.size
    obtain ⟨b1, b2⟩ := HB.out k
    by_cases hlt : k < s.size
    · have hat := byte_at s k hlt
      have HG : Hid (spSt s b (k + 1) = if hitB b (s.data.toList.getD k 0) then ((spSt s b k).1 ++ [s.extract (spSt s b k).2 k], k + 1) else spSt s b k) := Lib.hid rfl
      rw [← hat] at HG
      clear hat
      generalize hst : spSt s b k = st at *
      obtain ⟨out, from'⟩ := st
      have HST := Lib.hid hst
      clear hst
      simp only at b1 b2 HN HO
      go_wp2
      obtain ⟨wo, rfl⟩ : ∃ wo : World, wo = wr := ⟨_, rfl⟩
      go_loopw [5, 6, 8] (fun v f i wr => ∃ (j : Nat), j ≤ b.size ∧ i = .int .i64 (j : Int) ∧ f = .int .i64 (from' : Nat) ∧ v = .slice B n d ∧ Hid (∀ x (hx : x < b.size), x < j → b[x] ≠ s[k]) ∧ Below wo.heap.size wo wr) (fun _ _ i _ => b.size - (intOf i).toNat)
      case atStart => exact ⟨0, Nat.zero_le _, rfl, rfl, rfl, Lib.hid (fun _ _ h => absurd h (Nat.not_lt_zero _)), Below.refl _ _⟩
      case round =>
        obtain ⟨j, hj, rfl, rfl, rfl, HNE, hbi⟩ := hrel
        have hbb := below_trans' hb hbi
        have hbz2 := hbb.size
        by_cases hlj : j < b.size
        · by_cases hx : b[j] = s[k]
          · have hh := hit_yes b s[k] j hlj hx
            have HS : Hid (spSt s b (k + 1) = (out ++ [s.extract from' k], k + 1)) := Lib.hid (by rw [HG.out, if_pos hh])
            have e1 : (((s[k].toNat : Nat) : Int) == ((b[j].toNat : Nat) : Int)) = true := by rw [hx]; simp
            have HO2 := Lib.hid ((HO.out.below hbi (Nat.le_refl _)).mono (Nat.le_refl _) hbi.size)
            clear hh hx HG HNE
            go_wp2
            go_quiet (fail)
            go_wp2_with (at_builtin; refine wpList_pushS rfl (.tmp 29) (.tmp 34) rfl w.heap.size wr.heap.size B d n out (s.extract from' k) wr.heap.size rfl rfl HN.out ?c1 (cell_newS _ _) (by omega) ?c3 ?_)
            case c1 => exact (HO2.out.drewN _).alloc (Nat.le_refl _) _
            case c3 => first | omega | (simp; omega)
            intro A' c' w4 ho4 hg4
            have HO4 := Lib.hid ho4
            have hb4 := below_onlyS ((below_drewN hbb _).alloc (by simpa using hbz2) (.cells #[.string (s.extract from' k)] 9)) hg4 (Nat.le_refl _) (by simp; omega)
            clear ho4 hg4
            go_wp2
            go_roundw
            case rel => exact ⟨k + 1, n + 1, c', A', by omega, by go_num, by rw [HS.out]; go_num, rfl, Lib.hid (by rw [HS.out, List.length_append, HN.out]; rfl), by omega, by rw [HS.out]; exact HO4.out, hb4⟩
            case measure => simp [intOf]; omega
          · have e1 : (((s[k].toNat : Nat) : Int) == ((b[j].toNat : Nat) : Int)) = false := by
              rw [beq_eq_false_iff_ne]
              intro e
              apply hx
              have : s[k].toNat = b[j].toNat := by omega
              exact (UInt8.toNat_inj.1 this).symm
            have HNE2 : Hid (∀ x (hx : x < b.size), x < j + 1 → b[x] ≠ s[k]) := Lib.hid (fun y hy hyj => by
              by_cases e : y = j
              · subst e; exact hx
              · exact HNE.out y hy (by omega))
            clear hx HG HNE
            go_wp2
            go_quiet (fail)
            go_wp2
            go_roundw
            case rel => exact ⟨j + 1, by omega, by go_num, rfl, rfl, HNE2, below_drewN hbi _⟩
            case measure => simp [intOf]; omega
        · obtain rfl : j = b.size := by omega
          have hh := hit_no b s[k] HNE.out
          have HS : Hid (spSt s b (k + 1) = (out, from')) := Lib.hid (by rw [HG.out, if_neg (by rw [hh]; simp), ← HST.out])
          have HO2 := Lib.hid ((HO.out.below hbi (Nat.le_refl _)).mono (Nat.le_refl _) hbi.size)
          clear hh HG HNE
          go_wp2
          go_roundw
          case rel => exact ⟨k + 1, n, d, B, by omega, by go_num, by rw [HS.out], rfl, Lib.hid (by rw [HS.out]; exact HN.out), by omega, by rw [HS.out]; exact HO2.out, hbb⟩
          case measure => simp [intOf]; omega
    · obtain rfl : k = s.size := by omega
      generalize hst : spSt s b s.size = st at *
      obtain ⟨out, from'⟩ := st
      have HST := Lib.hid hst
      clear hst
      simp only at b1 b2 HN HO
      go_wp2_with (at_builtin; refine wpList_pushS rfl (.tmp 38) (.tmp 42) rfl w.heap.size wr.heap.size B d n out (s.extract from' s.size) wr.heap.size rfl rfl HN.out ?c1 (cell_newS _ _) (by omega) ?c3 ?_)
      case c1 => exact HO.out.alloc (Nat.le_refl _) _
      case c3 => first | omega | (simp; omega)
      intro A' c' w4 ho4 hg4
      have HO4 := Lib.hid ho4
      have hb4 := below_onlyS (hb.alloc hbz (.cells #[.string (s.extract from' s.size)] 9)) hg4 (Nat.le_refl _) (by simp; omega)
      clear ho4 hg4
      go_wp2
      go_ret
      rw [HR.out]
      exact ⟨A', c', by rw [List.length_append, HN.out]; rfl, HO4.out, hb4⟩
end Go.Proofs.YtliimojaoegdhaaDoor
