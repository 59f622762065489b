/- Slices of strings, and the laws' helpers on them, walked: copy, compare, mark, hold against the marks, sizes; append. -/
import Derived.Test.YtliimojaoegdhaaDoorMem
import Derived.Test.YtliimojaoegdhaaDoorRows
import Derived.RegionTactic
import Derived.Deep.QuietTactic
import Derived.BigQuiet
import Derived.Outline
import Derived.Handy
import Derived.Laws.IdiomStrings
import Derived.Deep.RegionHeld3
import Derived.WalkLawsBesides
import Derived.WalkSpells
namespace Go.Proofs.YtliimojaoegdhaaDoor
open Go.RowKit

def strs (ss : List ByteArray) : List Value := ss.map Value.string
theorem strs_length (ss : List ByteArray) : (strs ss).length = ss.length := by simp [strs]
theorem strs_snoc (ss : List ByteArray) (s : ByteArray) : strs (ss ++ [s]) = strs ss ++ [.string s] := by simp [strs]
theorem Row.str {w : World} {B : Nat} {A : Option Addr} {ss : List ByteArray} (h : Row w B A (strs ss)) {k : Nat} (hk : k < ss.length) :
    ∃ b off, A = some ⟨b, off, none⟩ ∧ b < B ∧ w.cell? ⟨b, off + k, none⟩ = some (.string ss[k]) := by
  obtain ⟨b, off, e, hb, hc⟩ := h.at_ (k := k) (by rw [strs_length]; exact hk)
  exact ⟨b, off, e, hb, by rw [hc]; simp [strs]⟩
theorem Own.str {w : World} {lo hi : Nat} {t : TypeId} {A : Option Addr} {c : Nat} {ss : List ByteArray} (h : Own w lo hi t A c (strs ss)) {k : Nat} (hk : k < ss.length) :
    ∃ g, A = some ⟨g, 0, none⟩ ∧ lo ≤ g ∧ g < hi ∧ w.cell? ⟨g, k, none⟩ = some (.string ss[k]) ∧ w.frozen? ⟨g, k, none⟩ = false := by
  obtain ⟨g, e, a, b, hc, hf⟩ := h.at_ (k := k) (by rw [strs_length]; exact hk)
  exact ⟨g, e, a, b, by rw [hc]; simp [strs], hf⟩
/-- The call has laid a new row of strings and turned nothing that was there. -/
def NewStrs (w : World) (ss : List ByteArray) (e : Ending) (w' : World) : Prop :=
  ∃ A c, e = .returned (.slice A ss.length c) ∧ Own w' w.heap.size w'.heap.size 9 A c (strs ss) ∧ Below w.heap.size w w'

theorem str_info : (Tryd.prog.info? 9).map (fun i => (i.zero, i.size, i.bytes)) = some (some (.string ⟨#[]⟩), 1, 16) := by kernel_rfl
theorem make_strs (n : Nat) (hn : n ≤ 1099511627776) (W : World) :
    (Instr.makeSlice 24 (.int .i64 (n : Int)) (.int .i64 (n : Int))).run Tryd.prog W = .ok (.slice (some ⟨W.heap.size, 0, none⟩) n n) (W.alloc (.cells (madeCells #[.string ⟨#[]⟩] n) 9)) := by
  obtain ⟨i0, hi, hz0, hz1, hz2⟩ := info_parts str_info
  have h := run_make (P := Tryd.prog) W 24 9 i0 _ Tryd.underlying24 hi hz0 .i64 .i64 (n : Int) (n : Int) (by omega) (by omega) (by rw [hz2]; omega) (by omega)
  rw [hz1] at h
  simpa [Value.cells] using h
theorem own_strs (w : World) (lo n : Nat) (hlo : lo ≤ w.heap.size) (hn : n ≤ 1099511627776) :
    Own (w.alloc (.cells (madeCells #[.string ⟨#[]⟩] n) 9)) lo (w.heap.size + 1) 9 (some ⟨w.heap.size, 0, none⟩) n (strs (List.replicate n ⟨#[]⟩)) := by
  have h := Own.made w lo 9 (madeCells #[.string ⟨#[]⟩] n) hlo (by rw [size_madeCells]; unfold maxLen; omega)
  rw [size_madeCells, toList_madeCells_one] at h
  simpa [strs] using h
theorem eqStringS_any (A B : Option Addr) (c d : Nat) (zs : List ByteArray) (w : World) (h : Row w w.heap.size A (strs zs)) (h' : Row w w.heap.size B (strs zs)) (hl : zs.length ≤ 1099511627776) :
    Calls Tryd.prog 13 #[.slice A zs.length c, .slice B zs.length d] w fun e w' => e = .returned (.bool true) ∧ Below w.heap.size w w' := by
  have e0 : ((zs.length : Int) != (zs.length : Int)) = false := by simp
  go_enter Tryd.func13, Tryd.ntmps13
  go_wp2
  go_loopw [5] (fun i wr => ∃ k : Nat, k ≤ zs.length ∧ i = .int .i64 k ∧ Below w.heap.size w wr) (fun i _ => zs.length - (intOf i).toNat)
  case atStart => exact ⟨0, Nat.zero_le _, rfl, Below.refl _ _⟩
  case round =>
    obtain ⟨k, hk, rfl, hb⟩ := hrel
    by_cases hlt : k < zs.length
    · obtain ⟨b, off, rfl, hbB, hc⟩ := (h.below hb (Nat.le_refl _)).str hlt
      obtain ⟨b', off', rfl, hbB', hc'⟩ := (h'.below hb (Nat.le_refl _)).str hlt
      clear h h'
      generalize zs[k] = x at *
      have hx : (x.toList == x.toList) = true := by simp
      go_wp2
      go_quiet (fail)
      go_wp2
      go_roundw
      case rel => exact ⟨k + 1, by omega, by go_num, below_drewN hb _⟩
      case measure => simp [intOf]; omega
    · go_wp2
      go_ret
      exact ⟨rfl, hb⟩

/-! ### markText: a letter and digits -/
def dgs : Nat → Nat → List UInt8
  | 0, _ => []
  | f + 1, k => if k = 0 then [] else dgs f (k / 10) ++ [UInt8.ofNat (48 + k % 10)]
theorem dgs_zero (f : Nat) : dgs f 0 = [] := by cases f <;> simp [dgs]
theorem dgs_len (f k : Nat) : (dgs f k).length ≤ f := by
  induction f generalizing k with
  | zero => simp [dgs]
  | succ f ih =>
    rw [dgs]
    split
    · simp
    · rw [List.length_append, List.length_singleton]; have := ih (k / 10); omega
def markT (k : Nat) : ByteArray := ⟨((109 : UInt8) :: dgs 20 k).toArray⟩
theorem u8_nat (m : Nat) (h : m < 10) : ((UInt8.ofNat (48 + m)).toNat : Int) = 48 + (m : Int) := by
  have : (UInt8.ofNat (48 + m)).toNat = 48 + m := by simp; omega
  omega
theorem mk_size (l : List UInt8) : (ByteArray.mk l.toArray).size = l.length := by show l.toArray.size = _; simp
theorem bytes_back (wr : World) (m : Nat) (h : m < 10) : (convert 43 9 (.slice (some ⟨wr.heap.size, 0, none⟩) 1 1)).run Tryd.prog (wr.alloc (.cells #[.int .u8 (48 + (m : Int))] 5)) = .ok (.string ⟨[UInt8.ofNat (48 + m)].toArray⟩) (wr.alloc (.cells #[.int .u8 (48 + (m : Int))] 5)) := by
  refine run_convert_bytes_back _ _ _ _ ⟨wr.heap.size, 0, none⟩ 1 [UInt8.ofNat (48 + m)] Tryd.underlying43 Tryd.underlying5 Tryd.underlying9 ?_
  intro j hj
  have : j = 0 := by simpa using hj
  subst this
  rw [List.getElem_cons_zero, u8_nat m h]
  show (wr.alloc _).cell? ⟨wr.heap.size, 0, none⟩ = _
  go_simp
theorem markText_any (k : Nat) (w : World) (h1 : 1 ≤ k) (h2 : k ≤ 1099511627776) :
    Calls Tryd.prog 36 #[.int .i64 (k : Int)] w fun e w' => e = .returned (.string (markT k)) ∧ Below w.heap.size w w' := by
  go_enter Tryd.func36, Tryd.ntmps36
  go_wp2
  go_loopw [0, 3] (fun n v wr => ∃ (f q : Nat) (o : List UInt8), n = .int .i64 (q : Int) ∧ v = .string ⟨o.toArray⟩ ∧ Hid (dgs 20 k = dgs f q ++ o) ∧ q ≤ 1099511627776 ∧ Hid (q < 10 ^ f) ∧ o.length ≤ 20 ∧ o.length + f ≤ 20 ∧ Below w.heap.size w wr) (fun n _ _ => (intOf n).toNat)
  case atStart => exact ⟨20, k, [], rfl, rfl, Lib.hid (by simp), h2, Lib.hid (Nat.lt_of_le_of_lt h2 (by decide)), by simp, by simp, Below.refl _ _⟩
  case round =>
    obtain ⟨f, q, o, rfl, rfl, HD, hq, HF, ho, hof, hb⟩ := hrel
    by_cases h0 : 0 < q
    · obtain ⟨f, rfl⟩ : ∃ f', f = f' + 1 := by
        cases f with
        | zero => have := HF.out; simp at this; omega
        | succ f => exact ⟨f, rfl⟩
      obtain ⟨m, hm⟩ : ∃ m, m = q % 10 := ⟨_, rfl⟩
      obtain ⟨r, hr⟩ : ∃ r, r = q / 10 := ⟨_, rfl⟩
      have hm10 : m < 10 := by omega
      have hrq : r < q := by omega
      have E1 : (q : Int) % 10 = (m : Int) := by omega
      have E2 : (q : Int) / 10 = (r : Int) := by omega
      have E3 : IntKind.u8.wrap (48 + (m : Int)) = 48 + (m : Int) := by
        have : ∀ m, m < 10 → IntKind.u8.wrap (48 + ((m : Nat) : Int)) = 48 + (m : Int) := by decide +kernel
        exact this m hm10
      have HD2 : Hid (dgs 20 k = dgs f r ++ (UInt8.ofNat (48 + m) :: o)) := Lib.hid (by
        rw [HD.out, dgs, if_neg (by omega), ← hm, ← hr]; simp)
      have HF2 : Hid (r < 10 ^ f) := Lib.hid (by
        have := HF.out
        rw [Nat.pow_succ] at this
        omega)
      have hcv := bytes_back wr m hm10
      have sz1 : (ByteArray.mk [UInt8.ofNat (48 + m)].toArray).size = 1 := rfl
      have sz2 : (ByteArray.mk o.toArray).size = o.length := mk_size o
      have HAP : Hid (ByteArray.mk [UInt8.ofNat (48 + m)].toArray ++ ByteArray.mk o.toArray = ByteArray.mk (UInt8.ofNat (48 + m) :: o).toArray) := Lib.hid (ByteArray.mk_append_mk _ _)
      have HCV := Lib.hid hcv
      have HS1 := Lib.hid sz1
      have HS2 := Lib.hid sz2
      have hadd := fun (W' : World) => run_string_add_sum (P := Tryd.prog) W' (ByteArray.mk [UInt8.ofNat (48 + m)].toArray) (ByteArray.mk o.toArray) (by rw [sz1, sz2]; omega)
      rw [HAP.out] at hadd
      clear hm hr sz1 sz2
      generalize UInt8.ofNat (48 + m) = d at *
      go_wp2
      go_roundw
      case rel => exact ⟨f, r, d :: o, rfl, rfl, HD2, by omega, HF2, by rw [List.length_cons]; omega, by rw [List.length_cons]; omega, hb.alloc hb.size _⟩
      case measure => simp [intOf]; omega
    · obtain rfl : q = 0 := by omega
      have HE : Hid (markT k = ⟨((109 : UInt8) :: o).toArray⟩) := Lib.hid (by unfold markT; rw [HD.out, dgs_zero]; rfl)
      have sz2 : (ByteArray.mk o.toArray).size = o.length := mk_size o
      have hadd := fun (W' : World) => run_string_add_sum (P := Tryd.prog) W' (ByteArray.mk #[109]) (ByteArray.mk o.toArray) (by rw [sz2]; show 1 + _ ≤ _; omega)
      have HAP : Hid (ByteArray.mk #[109] ++ ByteArray.mk o.toArray = ByteArray.mk ((109 : UInt8) :: o).toArray) := Lib.hid (ByteArray.mk_append_mk [109] o)
      rw [HAP.out] at hadd
      clear sz2
      go_wp2
      go_ret
      exact ⟨ret_string HE.out.symm, hb⟩
def smarks (k n : Nat) : List ByteArray := (List.range n).map fun i => markT (k + i)
theorem smarks_length (k n : Nat) : (smarks k n).length = n := by simp [smarks]
theorem smarks_get (k n i : Nat) (h : i < (smarks k n).length) : (smarks k n)[i] = markT (k + i) := by simp [smarks]
theorem smarks_succ (k n : Nat) : smarks k (n + 1) = smarks k n ++ [markT (k + n)] := by simp [smarks, List.range_succ]
theorem smark_step (zs : List ByteArray) (k j : Nat) (hj : j < zs.length) : (strs (smarks k j ++ zs.drop j)).set j (.string (markT (k + j))) = strs (smarks k (j + 1) ++ zs.drop (j + 1)) := by
  unfold strs
  rw [← List.map_set, List.set_append_right _ _ (by rw [smarks_length]; omega), smarks_length, Nat.sub_self, smarks_succ, List.drop_eq_getElem_cons hj, List.set_cons_zero, List.append_assoc]
  rfl
def SMarked (w : World) (lo hi : Nat) (A : Option Addr) (c : Nat) (k n : Nat) (e : Ending) (w' : World) : Prop :=
  e = .returned (.int .i64 ((k + n : Nat) : Int)) ∧ Own w' lo hi 9 A c (strs (smarks k n)) ∧ Only lo hi w w'
theorem markStringS_any (A : Option Addr) (c : Nat) (zs : List ByteArray) (k : Nat) (lo hi : Nat) (w : World) (h : Own w lo hi 9 A c (strs zs)) (hhi : hi ≤ w.heap.size) (hl : zs.length ≤ 1048577) (h0 : 1 ≤ k) (h1 : k ≤ 1048577) :
    Calls Tryd.prog 14 #[.slice A zs.length c, .int .i64 (k : Int)] w (SMarked w lo hi A c k zs.length) := by
  go_enter Tryd.func14, Tryd.ntmps14
  go_wp2
  go_loopw [1, 5] (fun m i wr => ∃ j : Nat, j ≤ zs.length ∧ i = .int .i64 j ∧ m = .int .i64 ((k + j : Nat) : Int) ∧ Own wr lo hi 9 A c (strs (smarks k j ++ zs.drop j)) ∧ Only lo hi w wr) (fun _ i _ => zs.length - (intOf i).toNat)
  case atStart => exact ⟨0, Nat.zero_le _, rfl, by simp, by simpa [smarks] using h, Only.refl _ _ _⟩
  case round =>
    obtain ⟨j, hj, rfl, rfl, ho, hb⟩ := hrel
    have hsz := hb.size
    by_cases hlt : j < zs.length
    · have HS := Lib.hid (smark_step zs k j hlt)
      have HO := Lib.hid ho
      clear ho h
      generalize hkj : k + j = kj at *
      have HKJ := Lib.hid hkj
      have hkj1 : 1 ≤ kj := by omega
      have hkj2 : kj ≤ 1099511627776 := by omega
      clear hkj
      go_wp2_with fail
      refine (markText_any kj _ hkj1 hkj2).mono ?_
      rintro e w2 ⟨rfl, hb2⟩
      have ho2 := HO.out.below hb2 (by omega)
      obtain ⟨g, rfl, hg1, hg2, hc2, hf2⟩ := ho2.str (k := j) (by simp [smarks_length]; omega)
      have ho3 := ho2.set j (.string (markT kj))
      rw [HS.out] at ho3
      have HO3 := Lib.hid ho3
      have hb3 := hb.trans (Only.of_below (lo := lo) (hi := hi) hb2)
      clear ho2 ho3 hb2
      go_wp2
      go_roundw
      case rel => exact ⟨j + 1, by omega, by go_num, by rw [show k + (j + 1) = kj + 1 by have := HKJ.out; omega]; go_num, HO3.out, hb3.setCell (p := ⟨g, j, none⟩) hg1 hg2 _⟩
      case measure => simp [intOf]; omega
    · have e : j = zs.length := by omega
      subst e
      have HO : Own wr lo hi 9 A c (strs (smarks k zs.length)) := by simpa using ho
      go_wp2
      go_ret
      exact ⟨rfl, HO, hb⟩
theorem heldStringS_any (A : Option Addr) (c n : Nat) (k : Nat) (w : World) (h : Row w w.heap.size A (strs (smarks k n))) (hl : n ≤ 1048577) (h0 : 1 ≤ k) (h1 : k ≤ 1048577) :
    Calls Tryd.prog 15 #[.slice A n c, .int .i64 (k : Int)] w fun e w' => e = .returned (.int .i64 ((k + n : Nat) : Int)) ∧ Below w.heap.size w w' := by
  go_enter Tryd.func15, Tryd.ntmps15
  go_wp2
  go_loopw [1, 5] (fun m i wr => ∃ j : Nat, j ≤ n ∧ i = .int .i64 j ∧ m = .int .i64 ((k + j : Nat) : Int) ∧ Below w.heap.size w wr) (fun _ i _ => n - (intOf i).toNat)
  case atStart => exact ⟨0, Nat.zero_le _, rfl, by simp, Below.refl _ _⟩
  case round =>
    obtain ⟨j, hj, rfl, rfl, hb⟩ := hrel
    by_cases hlt : j < n
    · obtain ⟨b, off, rfl, hbB, hc⟩ := (h.rowAt hb (Nat.le_refl _)).str (k := j) (by rw [smarks_length]; exact hlt)
      rw [smarks_get] at hc
      clear h
      generalize hkj : k + j = kj at *
      have HKJ := Lib.hid hkj
      have hkj1 : 1 ≤ kj := by omega
      have hkj2 : kj ≤ 1099511627776 := by omega
      clear hkj
      have HM := Lib.hid (fun W' => markText_any kj W' hkj1 hkj2)
      generalize markT kj = x at *
      have hx : (x.toList == x.toList) = true := by simp
      have hv : Below wr.heap.size wr wr := Below.refl _ _
      have t1 : (0 : Int) ≤ (j : Int) := by omega
      have t2 : (j : Int) < (n : Int) := by omega
      go_wp2
      go_region_held3 (fun w' => Below wr.heap.size wr w' ∧ w'.cell? ⟨b, off + j, none⟩ = some (.string x))
        (first | exact ⟨hv, hc⟩ | exact ⟨hv.drew, hc⟩)
        ((go_at_call 36; refine (HM.out _).mono ?_; rintro e wv ⟨rfl, hbv⟩; obtain ⟨hv, hc⟩ : Below wr.heap.size wr wv ∧ wv.cell? ⟨b, off + j, none⟩ = some (.string x) := ⟨below_trans (by first | exact hv | exact hv.drew) hbv, (hbv.cell (p := ⟨b, off + j, none⟩) (World.block_lt_of_cell? _ _ hc)).trans hc⟩))
      go_wp2
      go_roundw
      case rel => exact ⟨j + 1, by omega, by go_num, by rw [show k + (j + 1) = kj + 1 by have := HKJ.out; omega]; go_num, below_trans hb hv⟩
      case measure => simp [intOf]; omega
    · have e : j = n := by omega
      subst e
      go_wp2
      go_ret
      exact ⟨rfl, hb⟩
/-! ### sizes -/
def szs (ss : List ByteArray) (k : Nat) : Nat := ((ss.take k).map ByteArray.size).sum
theorem szs_succ (ss : List ByteArray) (k : Nat) (h : k < ss.length) : szs ss (k + 1) = szs ss k + ss[k].size := by
  unfold szs
  rw [List.take_succ_eq_append_getElem h, List.map_append, List.sum_append]
  simp
theorem szs_mono (ss : List ByteArray) (k : Nat) (_ : k ≤ ss.length) : szs ss k ≤ szs ss ss.length := by
  unfold szs
  rw [List.take_length]
  have : ss = ss.take k ++ ss.drop k := (List.take_append_drop k ss).symm
  have e := congrArg (fun l : List ByteArray => (l.map ByteArray.size).sum) this
  simp only [List.map_append, List.sum_append] at e
  omega
/-! ### append -/
theorem wpList_pushS {ops : Array Oper} {rest : List Oper} {o : Oper} {a : Act} {Q : Exit → Act → World → Prop} {w : World} (hgd : o.guard = none) (s x : Operand)
    (ho : o.op = .call { callee := .builtin .append, args := #[s, x], argTypes := #[24, 24] })
    (lo hi : Nat) (A : Option Addr) (c n : Nat) (zs : List ByteArray) (z : ByteArray) (g : Nat) (hs : a.eval s = .slice A n c) (hx : a.eval x = .slice (some ⟨g, 0, none⟩) 1 1)
    (hn : n = zs.length) (hown : Own w lo hi 9 A c (strs zs)) (hcell : w.cell? ⟨g, 0, none⟩ = some (.string z)) (hl : n ≤ 1099511627776) (hlo : lo ≤ w.heap.size)
    (h : ∀ A' c' w', Own w' lo w'.heap.size 9 A' c' (strs (zs ++ [z])) → Only lo hi w w' → wpList Tryd.prog ops Q rest (a.put o.dst (.slice A' (n + 1) c')) w') : wpList Tryd.prog ops Q (o :: rest) a w := by
  subst hn
  obtain ⟨i0, hi0, hz0, hz1, hz2⟩ := info_parts str_info
  have hown' := hown.ownsRow
  rw [strs_length] at hown'
  refine wpList_append_own w hgd s x _ ho lo 9 i0 _ 1 16 Tryd.underlying24 hi0 hz0 hz1 hz2 rfl (by decide) _ zs.length (strs zs) hs hown' ⟨g, 0, none⟩ 1 1 [.string z] hx rfl ?_ ?_ ?_ ?_ hlo ?_
  · intro j u hu
    match j, hu with
    | 0, hu =>
      simp at hu
      subst hu
      exact hcell
    | j + 1, hu => simp at hu
  · intro u hu
    simp at hu
    subst hu
    rfl
  · unfold maxLen; omega
  · omega
  · intro v' w' h1 h2 _
    obtain ⟨A', c', rfl, hlen, ho'⟩ := own_of_ownsRow h1
    have e : (strs zs ++ [Value.string z]).length = zs.length + 1 := by simp [strs]
    rw [e]
    refine h A' c' w' ?_ ⟨h2.os, h2.tape, h2.output, h2.size, fun g hgs hr => h2.block g hgs (fun e => by
      rcases hown with ⟨rfl, _⟩ | ⟨g', cur, rfl, a, b, _⟩
      · simp [Value.ownBlock] at e
      · simp [Value.ownBlock] at e
        omega)⟩
    simpa [strs] using ho'
end Go.Proofs.YtliimojaoegdhaaDoor
