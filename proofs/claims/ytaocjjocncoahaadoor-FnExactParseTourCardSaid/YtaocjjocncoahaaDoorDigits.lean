/- The two functions IsDigits, walked: both say whether a string is not empty and holds decimal digits alone. -/
import Derived.Test.YtaocjjocncoahaaDoorKit
import Derived.Test.YtaocjjocncoahaaDoorRows
import Derived.Lib.Hide
import Derived.Outline
namespace Go.Proofs.YtaocjjocncoahaaDoor
open Go.RowKit

def dig1 (c : UInt8) : Bool := 48 ≤ c.toNat && c.toNat ≤ 57
def digs (l : List UInt8) : Bool := l.all dig1 && !l.isEmpty

theorem getElem_data (s : ByteArray) (k : Nat) (h : k < s.size) : s.data.toList[k]? = some s[k] := by
  rw [List.getElem?_eq_getElem (by simpa using h)]; rfl

theorem digs_stop (s : ByteArray) (k : Nat) (h : k < s.size) (hd : (s[k].toNat : Int) < 48 ∨ 57 < (s[k].toNat : Int)) : digs s.data.toList = false := by
  unfold digs
  have : dig1 s[k] = false := by unfold dig1; simp; omega
  have hm : s[k] ∈ s.data.toList := List.mem_of_getElem? (getElem_data s k h)
  have : s.data.toList.all dig1 = false := by
    rw [List.all_eq_false]; exact ⟨_, hm, by simp [this]⟩
  simp [this]

theorem digs_all (s : ByteArray) (h : ∀ c ∈ s.data.toList, dig1 c = true) : digs s.data.toList = decide (0 < s.size) := by
  unfold digs
  rw [List.all_eq_true.2 h, Bool.true_and]
  have e : s.size = s.data.toList.length := rfl
  rw [e]
  cases s.data.toList <;> simp

theorem digs_all2 (s : ByteArray) (h : ∀ c ∈ s.data.toList, dig1 c = true) : digs s.data.toList = !s.toList.isEmpty := by
  rw [ByteArray.toList_eq]
  unfold digs
  rw [List.all_eq_true.2 h, Bool.true_and]

theorem dig_step (s : ByteArray) (k : Nat) (h : k < s.size) (h1 : ∀ c ∈ s.data.toList.take k, dig1 c = true) (a : 48 ≤ (s[k].toNat : Int)) (b : (s[k].toNat : Int) ≤ 57) :
    ∀ c ∈ s.data.toList.take (k + 1), dig1 c = true := by
  intro c hc
  rw [List.take_succ_eq_append_getElem (by simpa using h)] at hc
  rcases List.mem_append.1 hc with hc | hc
  · exact h1 c hc
  · obtain rfl : c = s[k] := by rw [List.mem_singleton] at hc; exact hc
    unfold dig1
    simp; omega

def TakeDigs (s : ByteArray) (k : Nat) : Prop := ∀ c ∈ s.data.toList.take k, dig1 c = true

end Go.Proofs.YtaocjjocncoahaaDoor
