/- The two functions IsName, walked: both say whether a string is a name: one to eight letters or digits, a letter first. -/
import Derived.Test.YtliimojaoegdhaaDoorDigits
import Derived.Test.YtliimojaoegdhaaDoorSmall
import Derived.Lib.Strings
namespace Go.Proofs.YtliimojaoegdhaaDoor
open Go.RowKit

def low1 (c : UInt8) : Bool := 97 ≤ c.toNat && c.toNat ≤ 122
/-- The letter at place i is a small letter, or (behind the first place) a digit. -/
def nameAt (l : List UInt8) (i : Nat) : Bool := (l[i]?).all fun c => low1 c || (decide (i ≠ 0) && dig1 c)
def nameB (l : List UInt8) : Bool := decide (1 ≤ l.length) && decide (l.length ≤ 8) && (List.range l.length).all (nameAt l)

theorem name_stop (s : ByteArray) (k : Nat) (h : k < s.size) (hd : nameAt s.data.toList k = false) : nameB s.data.toList = false := by
  unfold nameB
  have : (List.range s.data.toList.length).all (nameAt s.data.toList) = false := by
    rw [List.all_eq_false]; exact ⟨k, by simpa using h, by simp [hd]⟩
  rw [this, Bool.and_false]

def TakeName (s : ByteArray) (k : Nat) : Prop := ∀ i, i < k → nameAt s.data.toList i = true

theorem name_all (s : ByteArray) (h : TakeName s s.size) : nameB s.data.toList = (decide (1 ≤ s.size) && decide (s.size ≤ 8)) := by
  unfold nameB
  have e : s.data.toList.length = s.size := rfl
  have : (List.range s.data.toList.length).all (nameAt s.data.toList) = true := by
    rw [List.all_eq_true]; intro i hi; exact h i (by simpa using hi)
  rw [this, e, Bool.and_true]

theorem nameAt_at (s : ByteArray) (k : Nat) (h : k < s.size) : nameAt s.data.toList k = (low1 s[k] || (decide (k ≠ 0) && dig1 s[k])) := by
  unfold nameAt; rw [getElem_data s k h]; rfl
theorem name_step (s : ByteArray) (k : Nat) (hk : TakeName s k) (hn : nameAt s.data.toList k = true) : TakeName s (k + 1) := by
  intro i hi
  by_cases e : i = k
  · subst e; exact hn
  · exact hk i (by omega)
theorem low1_yes (c : UInt8) (h : 97 ≤ (c.toNat : Int)) (h' : (c.toNat : Int) ≤ 122) : low1 c = true := by unfold low1; simp; omega
theorem low1_no (c : UInt8) (h : (c.toNat : Int) < 97 ∨ 122 < (c.toNat : Int)) : low1 c = false := by unfold low1; simp; omega
theorem dig1_yes (c : UInt8) (h : 48 ≤ (c.toNat : Int)) (h' : (c.toNat : Int) ≤ 57) : dig1 c = true := by unfold dig1; simp; omega
theorem dig1_no (c : UInt8) (h : (c.toNat : Int) < 48 ∨ 57 < (c.toNat : Int)) : dig1 c = false := by unfold dig1; simp; omega

theorem name_go (s : ByteArray) (k : Nat) (h : k < s.size) (hk : TakeName s k) (hd : (97 ≤ (s[k].toNat : Int) ∧ (s[k].toNat : Int) ≤ 122) ∨ (0 < k ∧ 48 ≤ (s[k].toNat : Int) ∧ (s[k].toNat : Int) ≤ 57)) : TakeName s (k + 1) := by
  refine name_step s k hk ?_
  rw [nameAt_at s k h]
  rcases hd with ⟨a, b⟩ | ⟨a, b, c⟩
  · rw [low1_yes _ a b]; rfl
  · rw [dig1_yes _ b c]; simp; right; omega
theorem name_bad (s : ByteArray) (k : Nat) (h : k < s.size) (hl : (s[k].toNat : Int) < 97 ∨ 122 < (s[k].toNat : Int)) (hd : k = 0 ∨ (s[k].toNat : Int) < 48 ∨ 57 < (s[k].toNat : Int)) : nameB s.data.toList = false := by
  refine name_stop s k h ?_
  rw [nameAt_at s k h, low1_no _ hl]
  rcases hd with rfl | hd
  · simp
  · rw [dig1_no _ hd]; simp
theorem name_end (s : ByteArray) (h : TakeName s s.size) (b : Bool) (hb : (1 ≤ s.size ∧ s.size ≤ 8) ↔ b = true) : nameB s.data.toList = b := by
  rw [name_all s h, Bool.eq_iff_iff]
  simp [hb]

theorem extract_one (s : ByteArray) (k : Nat) (h : k < s.size) : (s.extract k (k + 1)).data.toList = [s[k]] := by
  rw [Lib.extract_data, Nat.add_sub_cancel_left]
  have h' : k < s.data.toList.length := by simpa using h
  rw [List.drop_eq_getElem_cons h', List.take_succ_cons, List.take_zero]
  rfl
theorem slice_one (s : ByteArray) (k : Nat) (h : k < s.size) (w : World) :
    (Instr.slice 9 (.string s) (some (.int .i64 (k : Int))) (some (.int .i64 ((k : Int) + 1))) none).run Tryd.prog w = .ok (.string (s.extract k (k + 1))) w := by
  have h := run_slice_string (P := Tryd.prog) w 9 s .i64 .i64 (k : Int) ((k : Int) + 1) Tryd.underlying9 (by omega) (by omega) (by omega)
  rw [h]
  have e : ((k : Int) + 1).toNat = k + 1 := by omega
  rw [Int.toNat_natCast, e]
theorem iDig1 (s : ByteArray) (k : Nat) (h : k < s.size) (w : World) :
    Calls Tryd.prog 58 #[.string (s.extract k (k + 1))] w fun e w' => e = .returned (.bool (dig1 s[k])) ∧ w = w' := by
  have e : digs (s.extract k (k + 1)).data.toList = dig1 s[k] := by rw [extract_one s k h]; simp [digs]
  rw [← e]
  refine iDigits _ w ?_
  have : (s.extract k (k + 1)).size = (s.extract k (k + 1)).data.toList.length := rfl
  rw [this, extract_one s k h]
  unfold maxLen; simp

theorem iName (s : ByteArray) (w : World) (hs : s.size ≤ maxLen) :
    Calls Tryd.prog 31 #[.string s] w fun e w' => e = .returned (.bool (nameB s.data.toList)) ∧ w = w' := by
  unfold maxLen at hs
  by_cases h8 : 1 ≤ s.size ∧ s.size ≤ 8
  · obtain ⟨g1, g2⟩ := h8
    by_cases h0 : 97 ≤ (s[0].toNat : Int) ∧ (s[0].toNat : Int) ≤ 122
    · obtain ⟨a0, b0⟩ := h0
      have e1 : decide ((s.size : Int) < 1) = false := by simp; omega
      have e2 : decide (8 < (s.size : Int)) = false := by simp; omega
      have e3 : decide ((s[0].toNat : Int) < 97) = false := by simp; omega
      have e4 : decide (122 < (s[0].toNat : Int)) = false := by simp; omega
      go_enter Tryd.func31, Tryd.ntmps31
      go_wp2
      go_loop [24] (fun i => ∃ k : Nat, k ≤ s.size ∧ i = .int .i64 k ∧ Hid (TakeName s k)) (fun i => s.size - (intOf i).toNat)
      case atStart => exact ⟨0, Nat.zero_le _, rfl, Lib.hid (fun i hi => by omega)⟩
      case round =>
        obtain ⟨k, hk, rfl, HT⟩ := hrel
        clear e1 e2 e3 e4
        by_cases hlt : k < s.size
        · have GO := Lib.hid (name_go s k hlt HT.out)
          have BAD := Lib.hid (name_bad s k hlt)
          have LO : Hid (k = 0 → 97 ≤ (s[k].toNat : Int) ∧ (s[k].toNat : Int) ≤ 122) := Lib.hid (fun e => by subst e; exact ⟨a0, b0⟩)
          have hsl := slice_one s k hlt
          clear a0 b0
          have h3 : (97 ≤ (s[k].toNat : Int) ∧ (s[k].toNat : Int) ≤ 122) ∨ (s[k].toNat : Int) < 97 ∨ 122 < (s[k].toNat : Int) := by omega
          rcases h3 with ⟨a, b⟩ | a | a
          · go_wp2
            go_round
            case rel => exact ⟨k + 1, by omega, by go_num, Lib.hid (GO.out (.inl ⟨a, b⟩))⟩
            case measure => simp [intOf]; omega
          · by_cases hd : 48 ≤ (s[k].toNat : Int) ∧ (s[k].toNat : Int) ≤ 57
            · have D := Lib.hid (dig1_yes s[k] hd.1 hd.2)
              have N : Hid (TakeName s (k + 1)) := Lib.hid (GO.out (.inr ⟨by rcases Nat.eq_zero_or_pos k with e | e; · have := LO.out e; omega
                                                                             · exact e, hd⟩))
              clear hd
              go_wp2_with (go_at_call 58; refine (iDig1 s k hlt _).mono ?_; rw [D.out]; rintro e w' ⟨rfl, rfl⟩)
              go_round
              case rel => exact ⟨k + 1, by omega, by go_num, N⟩
              case measure => simp [intOf]; omega
            · have D := Lib.hid (dig1_no s[k] (by omega))
              have N := Lib.hid (BAD.out (.inl a) (by omega))
              clear hd
              go_wp2_with (go_at_call 58; refine (iDig1 s k hlt _).mono ?_; rw [D.out]; rintro e w' ⟨rfl, rfl⟩)
              go_ret
              exact ⟨ret_bool N.out.symm, rfl⟩
          · have D := Lib.hid (dig1_no s[k] (by omega))
            have N := Lib.hid (BAD.out (.inr a) (by omega))
            have e5 : decide ((s[k].toNat : Int) ≤ 122) = false := by simp; omega
            go_wp2_with (go_at_call 58; refine (iDig1 s k hlt _).mono ?_; rw [D.out]; rintro e w' ⟨rfl, rfl⟩)
            go_ret
            exact ⟨ret_bool N.out.symm, rfl⟩
        · obtain rfl : k = s.size := by omega
          have EN := Lib.hid (name_end s HT.out true (by simp; omega))
          go_wp2
          go_ret
          exact ⟨ret_bool EN.out.symm, rfl⟩
    · have N := Lib.hid (name_bad s 0 (by omega) (by omega) (.inl rfl))
      have e1 : decide ((s.size : Int) < 1) = false := by simp; omega
      have e2 : decide (8 < (s.size : Int)) = false := by simp; omega
      have h3 : (s[0].toNat : Int) < 97 ∨ 122 < (s[0].toNat : Int) := by omega
      clear h0
      rcases h3 with a | a
      · go_enter Tryd.func31, Tryd.ntmps31
        go_wp2
        go_ret
        exact ⟨ret_bool N.out.symm, rfl⟩
      · have e3 : decide ((s[0].toNat : Int) < 97) = false := by simp; omega
        go_enter Tryd.func31, Tryd.ntmps31
        go_wp2
        go_ret
        exact ⟨ret_bool N.out.symm, rfl⟩
  · have E : nameB s.data.toList = false := by
      unfold nameB
      have : s.data.toList.length = s.size := rfl
      rw [this]
      by_cases e : 1 ≤ s.size
      · have e' : ¬ s.size ≤ 8 := by omega
        simp [e']
      · simp [e]
    have N := Lib.hid E
    have h3 : (s.size : Int) < 1 ∨ 8 < (s.size : Int) := by omega
    clear h8 E
    rcases h3 with a | a
    · go_enter Tryd.func31, Tryd.ntmps31
      go_wp2
      go_ret
      exact ⟨ret_bool N.out.symm, rfl⟩
    · have e1 : decide ((s.size : Int) < 1) = false := by simp; omega
      go_enter Tryd.func31, Tryd.ntmps31
      go_wp2
      go_ret
      exact ⟨ret_bool N.out.symm, rfl⟩
end Go.Proofs.YtliimojaoegdhaaDoor
