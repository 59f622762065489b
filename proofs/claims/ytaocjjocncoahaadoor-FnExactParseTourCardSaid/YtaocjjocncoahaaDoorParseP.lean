/- Plain: the decimal numerals, read again. -/
import Derived.Test.YtaocjjocncoahaaDoorFmtD
import Derived.Test.YtaocjjocncoahaaDoorDigits
import Derived.Lib.AtoiAllCases
namespace Go.Proofs.YtaocjjocncoahaaDoor
open Go.RowKit

def dv (l : List UInt8) (acc : Nat) : Nat := l.foldl (fun a c => a * 10 + (c.toNat - 48)) acc
theorem dv_append (a b : List UInt8) (acc : Nat) : dv (a ++ b) acc = dv b (dv a acc) := by unfold dv; rw [List.foldl_append]
theorem dv_mono (l : List UInt8) : ∀ acc, acc ≤ dv l acc := by
  induction l with
  | nil => intro acc; exact Nat.le_refl _
  | cons c r ih =>
    intro acc
    have := ih (acc * 10 + (c.toNat - 48))
    show acc ≤ dv r (acc * 10 + (c.toNat - 48))
    omega
theorem dv_take (l : List UInt8) (k : Nat) : dv (l.take k) 0 ≤ dv l 0 := by
  have := dv_mono (l.drop k) (dv (l.take k) 0)
  rwa [← dv_append, List.take_append_drop] at this
theorem dg_nat (m : Nat) (h : m < 10) : (UInt8.ofNat (48 + m)).toNat = 48 + m := by
  have : ∀ m, m < 10 → (UInt8.ofNat (48 + m)).toNat = 48 + m := by decide +kernel
  exact this m h
theorem dv_dec (u : Nat) : dv (Lib.decDigits u) 0 = u := by
  induction u using Nat.strongRecOn with
  | ind u ih =>
    by_cases h : u < 10
    · rw [Lib.decDigits_one h]
      show 0 * 10 + ((UInt8.ofNat (48 + u)).toNat - 48) = u
      rw [dg_nat u h]; omega
    · rw [dec_big u (by omega), dv_append, ih (u / 10) (by omega)]
      show u / 10 * 10 + ((UInt8.ofNat (48 + u % 10)).toNat - 48) = u
      rw [dg_nat _ (by omega)]; omega
theorem dec_dig (u : Nat) : ∀ c ∈ Lib.decDigits u, 48 ≤ c.toNat ∧ c.toNat ≤ 57 := by
  induction u using Nat.strongRecOn with
  | ind u ih =>
    by_cases h : u < 10
    · rw [Lib.decDigits_one h]
      intro c hc
      rw [List.mem_singleton] at hc
      subst hc
      rw [dg_nat u h]; omega
    · rw [dec_big u (by omega)]
      intro c hc
      rcases List.mem_append.1 hc with hc | hc
      · exact ih (u / 10) (by omega) c hc
      · rw [List.mem_singleton] at hc
        subst hc
        rw [dg_nat _ (by omega)]; omega
theorem dec_ne (u : Nat) : Lib.decDigits u ≠ [] := by
  by_cases h : u < 10
  · rw [Lib.decDigits_one h]; simp
  · rw [dec_big u (by omega)]; simp
theorem dec_digs (u : Nat) : digs (Lib.decDigits u) = true := by
  unfold digs
  have h1 : (Lib.decDigits u).all dig1 = true := by
    rw [List.all_eq_true]
    intro c hc
    have := dec_dig u c hc
    unfold dig1
    simp; exact ⟨this.1, this.2⟩
  have h2 : (Lib.decDigits u).isEmpty = false := by
    cases e : Lib.decDigits u with
    | nil => exact absurd e (dec_ne u)
    | cons _ _ => rfl
  rw [h1, h2]; rfl
theorem dec_len19 (u : Nat) (h : u ≤ 9223372036854775808) : (Lib.decDigits u).length ≤ 19 := dec_len 18 u (Nat.lt_of_le_of_lt h (by decide))
theorem parse_all (l : List UInt8) : ∀ acc, (∀ c ∈ l, 48 ≤ c.toNat ∧ c.toNat ≤ 57) → dv l acc ≤ 9223372036854775808 → Lib.parseUint10 acc l = .ok (dv l acc) := by
  induction l with
  | nil => intro acc _ _; rfl
  | cons c r ih =>
    intro acc hd hb
    have h1 := hd c (by simp)
    have h2 : dv (c :: r) acc = dv r (acc * 10 + (c.toNat - 48)) := rfl
    rw [h2] at hb ⊢
    have h3 := dv_mono r (acc * 10 + (c.toNat - 48))
    rw [Lib.parseUint10, if_pos h1, if_neg (by omega), if_neg (by omega)]
    exact ih _ (fun x hx => hd x (by simp [hx])) hb
theorem mag_dec (u : Nat) (h : u ≤ 9223372036854775808) : Lib.parseMag (Lib.decDigits u) = .ok u := by
  unfold Lib.parseMag
  rw [if_neg (dec_ne u), parse_all _ 0 (dec_dig u) (by rw [dv_dec]; exact h), dv_dec]
def InI (m : Int) : Prop := -9223372036854775808 ≤ m ∧ m ≤ 9223372036854775807
theorem atoi_itoa (n : Int) (h : InI n) : Lib.atoiAll (Lib.itoa n) = .ok n := by
  obtain ⟨h1, h2⟩ := h
  unfold Lib.itoa
  split
  · rw [Lib.atoiAll_minus, mag_dec _ (by omega)]
    unfold Lib.signed
    simp only []
    rw [if_neg (by omega)]
    congr 1
    omega
  · obtain ⟨c, r, e⟩ := List.exists_cons_of_ne_nil (dec_ne n.toNat)
    have hc := dec_dig n.toNat c (by rw [e]; simp)
    rw [e, Lib.atoiAll_plain c r (by omega) (by omega), ← e, mag_dec _ (by omega)]
    unfold Lib.signless
    simp only []
    rw [if_neg (by omega)]
    congr 1
    omega
theorem fmtI_data (n : Int) : (fmtI n).data.toList = Lib.itoa n := by unfold fmtI; simp
theorem fmtI_inj (m n : Int) (hm : InI m) (hn : InI n) (h : fmtI m = fmtI n) : m = n := by
  have e : Lib.itoa m = Lib.itoa n := by rw [← fmtI_data, ← fmtI_data, h]
  have h1 := atoi_itoa m hm
  rw [e, atoi_itoa n hn] at h1
  injection h1 with h1
  exact h1.symm
/-- What ParseInt answers of a string. -/
def PI (s : ByteArray) (n : Int) (ok : Bool) : Prop := (ok = true ∧ InI n ∧ s = fmtI n) ∨ (ok = false ∧ n = 0 ∧ ∀ m, InI m → fmtI m ≠ s)
theorem PI.one {s : ByteArray} {n m : Int} {a b : Bool} (h : PI s n a) (k : PI s m b) : n = m ∧ a = b := by
  rcases h with ⟨rfl, h1, h2⟩ | ⟨rfl, rfl, h2⟩ <;> rcases k with ⟨rfl, k1, k2⟩ | ⟨rfl, rfl, k2⟩
  · exact ⟨fmtI_inj n m h1 k1 (h2.symm.trans k2), rfl⟩
  · exact absurd h2.symm (k2 n h1)
  · exact absurd k2.symm (h2 m k1)
  · exact ⟨rfl, rfl⟩
theorem pi_ok {s : ByteArray} {n : Int} (h : Lib.atoiAll s.data.toList = .ok n) (e : fmtI n = s) : PI s n true := .inl ⟨rfl, Lib.atoiAll_bounds h, e.symm⟩
theorem pi_no {s : ByteArray} (h : ∀ n, Lib.atoiAll s.data.toList = .ok n → fmtI n ≠ s) : PI s 0 false := .inr ⟨rfl, rfl, fun m hm e => by
  refine h m ?_ e
  rw [← e, fmtI_data]
  exact atoi_itoa m hm⟩
/-- The sign is off, the digits are t: what a number's text is. -/
def Sgn (s t : ByteArray) (neg : Bool) : Prop := ∀ m, InI m → fmtI m = s → ∃ u : Nat, u ≤ 9223372036854775808 ∧ t.data.toList = Lib.decDigits u ∧ m = if neg then -(u : Int) else (u : Int)
theorem sgn_pos (s : ByteArray) (h : s.data.toList.head? ≠ some 45) : Sgn s s false := by
  intro m hm e
  rw [← e, fmtI_data] at h ⊢
  obtain ⟨h1, h2⟩ := hm
  unfold Lib.itoa at h ⊢
  split
  · rename_i h0; rw [if_pos h0] at h; simp at h
  · exact ⟨m.toNat, by omega, rfl, by simp; omega⟩
theorem sgn_neg (s t : ByteArray) (h : s.data.toList = 45 :: t.data.toList) : Sgn s t true := by
  intro m hm e
  obtain ⟨h1, h2⟩ := hm
  have e2 : Lib.itoa m = 45 :: t.data.toList := by rw [← fmtI_data, e, h]
  unfold Lib.itoa at e2
  split at e2
  · injection e2 with _ e2
    exact ⟨m.natAbs, by omega, e2.symm, by simp; omega⟩
  · have := dec_dig m.toNat 45 (by rw [e2]; simp)
    have e45 : (45 : UInt8).toNat = 45 := rfl
    omega
theorem Sgn.digs {s t : ByteArray} {neg : Bool} (h : Sgn s t neg) (hd : digs t.data.toList = false) : PI s 0 false := .inr ⟨rfl, rfl, fun m hm e => by
  obtain ⟨u, _, h2, _⟩ := h m hm e
  rw [h2, dec_digs] at hd
  cases hd⟩
theorem Sgn.long {s t : ByteArray} {neg : Bool} (h : Sgn s t neg) (hd : 19 < t.size) : PI s 0 false := .inr ⟨rfl, rfl, fun m hm e => by
  obtain ⟨u, h1, h2, _⟩ := h m hm e
  have : t.size = t.data.toList.length := rfl
  rw [h2] at this
  have := dec_len19 u h1
  omega⟩
theorem take_dv (l : List UInt8) (k : Nat) (c : UInt8) (h : l[k]? = some c) : dv (l.take (k + 1)) 0 = dv (l.take k) 0 * 10 + (c.toNat - 48) := by
  rw [List.take_add_one, h, dv_append]
  rfl
theorem Sgn.over {s t : ByteArray} {neg : Bool} (h : Sgn s t neg) {k v : Nat} (hv : v = dv (t.data.toList.take k) 0) {c : UInt8} (hk : t.data.toList[k]? = some c) (ho : 9223372036854775808 < v * 10 + (c.toNat - 48)) : PI s 0 false := .inr ⟨rfl, rfl, fun m hm e => by
  obtain ⟨u, h1, h2, _⟩ := h m hm e
  have h3 := dv_take t.data.toList (k + 1)
  rw [take_dv _ k c hk, ← hv, h2, dv_dec] at h3
  omega⟩
theorem Sgn.min {s t : ByteArray} (h : Sgn s t false) (hv : dv t.data.toList 0 = 9223372036854775808) : PI s 0 false := .inr ⟨rfl, rfl, fun m hm e => by
  obtain ⟨u, h1, h2, h3⟩ := h m hm e
  rw [h2, dv_dec] at hv
  have := hm.2
  simp at h3
  omega⟩
theorem Sgn.other {s t : ByteArray} {neg : Bool} (h : Sgn s t neg) {n : Int} (hn : n = if neg then -((dv t.data.toList 0 : Nat) : Int) else ((dv t.data.toList 0 : Nat) : Int)) (hs : fmtI n ≠ s) : PI s 0 false := .inr ⟨rfl, rfl, fun m hm e => by
  obtain ⟨u, h1, h2, h3⟩ := h m hm e
  rw [h2, dv_dec, ← h3] at hn
  exact hs (hn ▸ e)⟩
theorem bytes_eq {a b : ByteArray} (h : a.toList = b.toList) : a = b := by
  rw [ByteArray.toList_eq, ByteArray.toList_eq] at h
  cases a; cases b
  simp at h
  rw [h]
theorem cmp_no {a b : ByteArray} (h : a ≠ b) : (a.toList == b.toList) = false := by
  rw [beq_eq_false_iff_ne]
  exact fun e => h (bytes_eq e)
end Go.Proofs.YtaocjjocncoahaaDoor
