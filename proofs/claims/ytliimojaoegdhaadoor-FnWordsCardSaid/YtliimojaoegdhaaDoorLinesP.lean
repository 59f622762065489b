/- Plain: a text split at its newlines, in two ways. -/
import Derived.Test.YtliimojaoegdhaaDoorTextD
import Derived.Lib.SplitLaws
namespace Go.Proofs.YtliimojaoegdhaaDoor
open Go.RowKit

def pre (p : List UInt8) : List (List UInt8) → List (List UInt8)
  | [] => [p]
  | h :: t => (p ++ h) :: t
def sp (d : UInt8) : List UInt8 → List (List UInt8)
  | [] => [[]]
  | c :: r => if c = d then [] :: sp d r else pre [c] (sp d r)
theorem pre_nil {x : List (List UInt8)} (h : x ≠ []) : pre [] x = x := by
  cases x with
  | nil => exact absurd rfl h
  | cons a t => rfl
theorem pre_pre (p q : List UInt8) (x : List (List UInt8)) (h : x ≠ []) : pre p (pre q x) = pre (p ++ q) x := by
  cases x with
  | nil => exact absurd rfl h
  | cons a t => simp [pre]
theorem sp_ne (d : UInt8) (l : List UInt8) : sp d l ≠ [] := by
  cases l with
  | nil => simp [sp]
  | cons c r =>
    rw [sp]
    split
    · simp
    · cases h : sp d r <;> simp [pre]
theorem splitK_sp (d : UInt8) (l : List UInt8) : Lib.splitK [d] 0 (Lib.count l [d]) l = sp d l := by
  induction l with
  | nil => rw [Lib.count_one]; rfl
  | cons c r ih =>
    by_cases h : c = d
    · subst h
      have hix : Lib.index (c :: r) [c] = ((0 : Nat) : Int) := by rw [Lib.index]; simp [List.isPrefixOf]
      rw [Lib.count_cons_eq, Nat.add_comm 1, Lib.splitK, if_neg (by rw [hix]; decide), hix, sp, if_pos rfl, ← ih]
      simp
    · rw [Lib.count_cons_ne c d r h, sp, if_neg h, ← ih]
      have hp : ([d] : List UInt8).isPrefixOf (c :: r) = false := by simp [List.isPrefixOf, Ne.symm h]
      have hix : Lib.index (c :: r) [d] = if Lib.index r [d] == -1 then -1 else Lib.index r [d] + 1 := by rw [Lib.index, hp]; simp
      cases hk : Lib.count r [d] with
      | zero => simp [Lib.splitK, pre]
      | succ k =>
        by_cases hm : Lib.index r [d] = -1
        · rw [Lib.count_miss hm] at hk; cases hk
        · have hge := Lib.index_ge r [d]
          obtain ⟨j, hj⟩ : ∃ j : Nat, Lib.index r [d] = j := ⟨(Lib.index r [d]).toNat, by omega⟩
          have hne : ¬ (Lib.index r [d] == -1) = true := fun e => hm (beq_iff_eq.1 e)
          rw [if_neg hne, hj] at hix
          have hix' : Lib.index (c :: r) [d] = ((j + 1 : Nat) : Int) := by rw [hix]; omega
          have hne' : ¬ (Lib.index (c :: r) [d] == -1) = true := fun e => by have := beq_iff_eq.1 e; omega
          rw [Lib.splitK, if_neg hne', hix', Lib.splitK, if_neg hne, hj]
          simp [pre]
theorem spSt_sp (s b : ByteArray) (d : UInt8) (hb : b.data.toList = [d]) (i : Nat) (hi : i ≤ s.size) :
    sp d s.data.toList = (spSt s b i).1.map (·.data.toList) ++ pre ((s.data.toList.take i).drop (spSt s b i).2) (sp d (s.data.toList.drop i)) := by
  induction i with
  | zero => simp [spSt, pre_nil (sp_ne d _)]
  | succ i ih =>
    have hlt : i < s.size := by omega
    have hlt' : i < s.data.toList.length := hlt
    obtain ⟨bd1, _⟩ := spSt_bd s b i
    rw [ih (by omega), spSt]
    have hg : s.data.toList.getD i 0 = s.data.toList[i] := getD_lt _ _ _ hlt'
    rw [List.drop_eq_getElem_cons hlt', sp, hg]
    have ht : s.data.toList.take (i + 1) = s.data.toList.take i ++ [s.data.toList[i]] := by rw [List.take_add_one, List.getElem?_eq_getElem hlt']; rfl
    have hh : hitB b s.data.toList[i] = decide (s.data.toList[i] = d) := by unfold hitB; rw [hb]; simp [eq_comm]
    rw [hh]
    by_cases hc : s.data.toList[i] = d
    · rw [if_pos hc, if_pos (by rw [decide_eq_true_iff]; exact hc)]
      have hx : (s.extract (spSt s b i).2 i).data.toList = (s.data.toList.take i).drop (spSt s b i).2 := by
        rw [ByteArray.data_extract, Array.toList_extract, List.extract_eq_take_drop, List.drop_take]
      simp only [List.map_append, List.map_cons, List.map_nil, List.append_assoc, hx]
      rw [show (s.data.toList.take (i + 1)).drop (i + 1) = [] from List.drop_eq_nil_of_le (by simp; omega), pre_nil (sp_ne d _)]
      simp [pre]
    · rw [if_neg hc, if_neg (by rw [decide_eq_true_iff]; exact hc), pre_pre _ _ _ (sp_ne d _), ht, List.drop_append_of_le_length (by simp; omega)]
theorem rSplitAny_sp (s b : ByteArray) (d : UInt8) (hb : b.data.toList = [d]) : (rSplitAny s b).map (·.data.toList) = sp d s.data.toList := by
  have h := spSt_sp s b d hb s.size (Nat.le_refl _)
  have e : s.data.toList.take s.size = s.data.toList := List.take_of_length_le (Nat.le_refl _)
  rw [e, show s.data.toList.drop s.size = [] from List.drop_eq_nil_of_le (Nat.le_refl _)] at h
  rw [h]
  unfold rSplitAny
  have hx : (s.extract (spSt s b s.size).2 s.size).data.toList = s.data.toList.drop (spSt s b s.size).2 := by
    rw [ByteArray.data_extract, Array.toList_extract, List.extract_eq_take_drop, List.take_of_length_le]
    simp
  rw [List.map_append, List.map_cons, hx]
  simp [sp, pre]
theorem data_inj {a b : ByteArray} (h : a.data.toList = b.data.toList) : a = b := by
  cases a; cases b
  simp at h
  rw [h]
theorem map_data_inj : ∀ {a b : List ByteArray}, a.map (·.data.toList) = b.map (·.data.toList) → a = b
  | [], [], _ => rfl
  | [], _ :: _, h => by simp at h
  | _ :: _, [], h => by simp at h
  | x :: a, y :: b, h => by
    rw [List.map_cons, List.map_cons] at h
    injection h with h1 h2
    rw [data_inj h1, map_data_inj h2]
theorem split_two (s b : ByteArray) (d : UInt8) (hb : b.data.toList = [d]) : Lib.splitB b 0 (Lib.countB s b) s = rSplitAny s b := by
  refine map_data_inj ?_
  rw [rSplitAny_sp s b d hb, Lib.splitB_data, hb, ← splitK_sp]
  congr 1
  rw [← hb]
theorem count_two (s b : ByteArray) (d : UInt8) (hb : b.data.toList = [d]) : Lib.countB s b + 1 = (rSplitAny s b).length := by
  rw [← split_two s b d hb, Lib.splitB_all b (by show 1 ≤ b.data.toList.length; rw [hb]; simp) 0 _ s rfl]
/-- The lines of a text. -/
def rSplitLines (s : ByteArray) : List ByteArray := if (rSplitAny s ⟨#[10]⟩)[(rSplitAny s ⟨#[10]⟩).length - 1]? = some ⟨#[]⟩ then (rSplitAny s ⟨#[10]⟩).take ((rSplitAny s ⟨#[10]⟩).length - 1) else rSplitAny s ⟨#[10]⟩
end Go.Proofs.YtliimojaoegdhaaDoor
