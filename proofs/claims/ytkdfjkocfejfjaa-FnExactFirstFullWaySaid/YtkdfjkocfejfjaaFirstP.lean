/- FirstFullWay: plain law. The first way through all that are left, by trying; and by counting what remains. -/
import Derived.Test.YtkdfjkocfejfjaaWays
namespace Go.Proofs.Ytkdfjkocfejfjaa

/-- The first way that goes on from a through those that are left. -/
def fW (W : List Nat) : Nat → Nat → Nat → List Nat → Option (List Nat)
  | 0, _, _, way => some way
  | f + 1, a, left, way => (mem 8 (W.getD a 0 &&& left)).findSome? fun b => fW W f b (left - 2 ^ b) (way ++ [b])
def nxB (W : List Nat) (way : List Nat) (b : Nat) : Bool := match way.getLast? with
  | none => true
  | some a => bt W a b
def okF (W : List Nat) (f : Nat) (way : List Nat) (left b : Nat) : Bool := nxB W way b && decide (0 < wN lfOne W f b (left - 2 ^ b))
/-- The way that takes the first player from whom the rest can be gone. -/
def gW (W : List Nat) : Nat → List Nat → Nat → List Nat
  | 0, way, _ => way
  | f + 1, way, left => match (mem 8 left).find? (okF W f way left) with
    | none => way
    | some b => gW W f (way ++ [b]) (left - 2 ^ b)
theorem sum_pos (ms : List Nat) (g : Nat → Nat) : 0 < (ms.map g).sum ↔ ∃ b ∈ ms, 0 < g b := by
  induction ms with
  | nil => simp
  | cons x ms ih =>
    rw [List.map_cons, List.sum_cons]
    constructor
    · intro h
      by_cases hx : 0 < g x
      · exact ⟨x, List.mem_cons_self .., hx⟩
      · obtain ⟨b, hb, hg⟩ := ih.1 (by omega)
        exact ⟨b, List.mem_cons_of_mem _ hb, hg⟩
    · rintro ⟨b, hb, hg⟩
      rcases List.mem_cons.1 hb with rfl | hb
      · omega
      · have := ih.2 ⟨b, hb, hg⟩
        omega
theorem fW_some (W : List Nat) : ∀ (f a left : Nat) (way : List Nat), (fW W f a left way).isSome = decide (0 < wN lfOne W f a left)
  | 0, a, left, way => by simp [fW, wN, lfOne]
  | f + 1, a, left, way => by
    rw [fW, wN, Bool.eq_iff_iff, decide_eq_true_eq, sum_pos, List.findSome?_isSome_iff]
    constructor
    · rintro ⟨b, hb, h⟩
      rw [fW_some W f] at h
      exact ⟨b, hb, of_decide_eq_true h⟩
    · rintro ⟨b, hb, h⟩
      refine ⟨b, hb, ?_⟩
      rw [fW_some W f]
      exact decide_eq_true h
theorem filter_findSome {α β : Type} (p : α → Bool) (g : α → Option β) : ∀ l : List α, (l.filter p).findSome? g = (l.find? fun b => p b && (g b).isSome).bind g
  | [] => rfl
  | x :: l => by
    rw [List.find?_cons, List.filter_cons]
    cases hp : p x with
    | false => simp only [Bool.false_and]; exact filter_findSome p g l
    | true =>
      rw [Bool.true_and]
      simp only [if_true, List.findSome?_cons]
      cases hg : g x with
      | none => simp only [Option.isSome_none]; exact filter_findSome p g l
      | some y => simp [hg]
theorem mem_and (x y : Nat) : mem 8 (x &&& y) = (mem 8 y).filter fun b => x.testBit b := by
  unfold mem
  rw [List.filter_filter]
  congr 1
  funext b
  rw [Nat.testBit_and]
theorem find_congr {α : Type} (p q : α → Bool) (l : List α) (h : ∀ x, p x = q x) : l.find? p = l.find? q := by rw [funext h]
theorem fW_step (W : List Nat) (f a left : Nat) (way : List Nat) (hw : way.getLast? = some a) :
    fW W (f + 1) a left way = ((mem 8 left).find? (okF W f way left)).bind fun b => fW W f b (left - 2 ^ b) (way ++ [b]) := by
  rw [fW, mem_and, filter_findSome]
  congr 1
  apply find_congr
  intro b
  rw [fW_some]
  unfold okF nxB
  rw [hw]
  rfl
theorem fW_gW (W : List Nat) : ∀ (f a left : Nat) (way r : List Nat), way.getLast? = some a → fW W f a left way = some r → gW W f way left = r
  | 0, a, left, way, r, _, h => by rw [fW] at h; rw [gW]; exact Option.some.inj h
  | f + 1, a, left, way, r, hw, h => by
    rw [fW_step W f a left way hw] at h
    rw [gW]
    cases hq : (mem 8 left).find? (okF W f way left) with
    | none => rw [hq] at h; cases h
    | some b =>
      rw [hq] at h
      exact fW_gW W f b _ _ r (by simp) h
/-- What both functions answer at a valid tour. -/
def firstL (W : List Nat) : Option (List Nat) := (List.range W.length).findSome? fun a => fW W (W.length - 1) a (others W.length a) [a]
theorem mem_all (n : Nat) (h : n ≤ 8) : mem 8 (2 ^ n - 1) = List.range n := by
  have : ∀ n, n ≤ 8 → mem 8 (2 ^ n - 1) = List.range n := by decide +kernel
  exact this n h
theorem firstL_eq (W : List Nat) (hT : IsT W) : firstL W = ((mem 8 (2 ^ W.length - 1)).find? (okF W (W.length - 1) [] (2 ^ W.length - 1))).bind fun b => fW W (W.length - 1) b (others W.length b) [b] := by
  rw [mem_all _ hT.h8]
  unfold firstL
  have e := filter_findSome (fun _ => true) (fun b => fW W (W.length - 1) b (others W.length b) [b]) (List.range W.length)
  rw [List.filter_eq_self.2 (fun _ _ => rfl)] at e
  rw [e]
  congr 1
  apply find_congr
  intro b
  rw [fW_some]
  rfl
theorem firstL_g (W : List Nat) (hT : IsT W) (r : List Nat) (h : firstL W = some r) : gW W W.length [] (2 ^ W.length - 1) = r := by
  rw [firstL_eq W hT] at h
  obtain ⟨m, hm⟩ : ∃ m, W.length = m + 1 := ⟨W.length - 1, by have := hT.h1; omega⟩
  have hm' : W.length - 1 = m := by omega
  rw [hm'] at h
  rw [show gW W W.length [] (2 ^ W.length - 1) = gW W (m + 1) [] (2 ^ W.length - 1) by rw [← hm], gW]
  cases hq : (mem 8 (2 ^ W.length - 1)).find? (okF W m [] (2 ^ W.length - 1)) with
  | none => rw [hq] at h; cases h
  | some b =>
    rw [hq] at h
    exact fW_gW W m b _ _ r (by simp) h
/-! ### There is always one to go on with -/
theorem wN_succ (W : List Nat) (f a left : Nat) : 0 < wN lfOne W (f + 1) a left ↔ ∃ b, b < 8 ∧ bt W a b = true ∧ left.testBit b = true ∧ 0 < wN lfOne W f b (left - 2 ^ b) := by
  rw [wN, sum_pos]
  constructor
  · rintro ⟨b, hb, h⟩
    have := (mem_mem 8 _ b).1 hb
    rw [Nat.testBit_and, Bool.and_eq_true] at this
    exact ⟨b, this.1, this.2.1, this.2.2, h⟩
  · rintro ⟨b, h8, h1, h2, h⟩
    refine ⟨b, (mem_mem 8 _ b).2 ⟨h8, ?_⟩, h⟩
    rw [Nat.testBit_and, Bool.and_eq_true]
    exact ⟨h1, h2⟩
theorem or_sub (S x b : Nat) (hS : S < 256) (hx : x < 8) (hb : b < 8) (hbS : S.testBit b = true) (hne : x ≠ b) (_ : S.testBit x = false) : (S ||| 2 ^ x) - 2 ^ b = (S - 2 ^ b) ||| 2 ^ x := by
  have hS' : S ||| 2 ^ x < 256 := Nat.or_lt_two_pow (n := 8) hS (Nat.pow_lt_pow_right (by omega) hx)
  apply Nat.eq_of_testBit_eq
  intro i
  rw [testBit_sub _ b i hS' hb (by rw [Nat.testBit_or, hbS]; rfl), Nat.testBit_or, Nat.testBit_or, testBit_sub S b i hS hb hbS, Nat.testBit_two_pow]
  by_cases h : x = i
  · subst h; simp [hne]
  · simp [h]
theorem or_sub_self (S x : Nat) (hS : S < 256) (hx : x < 8) (hxS : S.testBit x = false) : (S ||| 2 ^ x) - 2 ^ x = S := by
  have hS' : S ||| 2 ^ x < 256 := Nat.or_lt_two_pow (n := 8) hS (Nat.pow_lt_pow_right (by omega) hx)
  apply Nat.eq_of_testBit_eq
  intro i
  rw [testBit_sub _ x i hS' hx (by rw [Nat.testBit_or, Nat.testBit_two_pow_self, Bool.or_true]), Nat.testBit_or, Nat.testBit_two_pow]
  by_cases h : x = i
  · subst h; simp [hxS]
  · have : ¬ i = x := fun e => h e.symm
    simp [h, this]
theorem way_in (W : List Nat) (hT : IsT W) : ∀ (f a S x : Nat), S < 256 → x < W.length → a < W.length → S < 2 ^ W.length → S.testBit x = false → bt W a x = true → x ≠ a → S.testBit a = false → 0 < wN lfOne W f a S → 0 < wN lfOne W (f + 1) a (S ||| 2 ^ x)
  | 0, a, S, x, hS, hx, ha, hSn, hxS, hax, hne, haS, _ => by
    have h8 := hT.h8
    rw [wN_succ]
    exact ⟨x, by omega, hax, by rw [Nat.testBit_or, Nat.testBit_two_pow_self, Bool.or_true], by simp [wN, lfOne]⟩
  | f + 1, a, S, x, hS, hx, ha, hSn, hxS, hax, hne, haS, h => by
    have h8 := hT.h8
    obtain ⟨b, hb8, hab, hbS, hw⟩ := (wN_succ W f a S).1 h
    have hbn : b < W.length := by
      rcases Nat.lt_or_ge b W.length with h | h
      · exact h
      · have := Nat.testBit_lt_two_pow (Nat.lt_of_lt_of_le hSn (Nat.pow_le_pow_right (by omega) h))
        rw [this] at hbS; cases hbS
    have hxb : x ≠ b := by intro e; rw [e, hbS] at hxS; cases hxS
    rw [wN_succ]
    cases hbx : bt W b x with
    | true =>
      refine ⟨b, hb8, hab, by rw [Nat.testBit_or, hbS]; rfl, ?_⟩
      rw [or_sub S x b hS (by omega) hb8 hbS hxb hxS]
      refine way_in W hT f b (S - 2 ^ b) x (Nat.lt_of_le_of_lt (Nat.sub_le _ _) hS) hx hbn (Nat.lt_of_le_of_lt (Nat.sub_le _ _) hSn) ?_ hbx hxb ?_ hw
      · rw [testBit_sub S b x hS hb8 hbS, hxS]; rfl
      · rw [testBit_sub S b b hS hb8 hbS]; simp
    | false =>
      refine ⟨x, by omega, hax, by rw [Nat.testBit_or, Nat.testBit_two_pow_self, Bool.or_true], ?_⟩
      rw [or_sub_self S x hS (by omega) hxS, wN_succ]
      refine ⟨b, hb8, ?_, hbS, hw⟩
      have := hT.pair x b hx hbn hxb
      rw [this, hbx]; rfl
theorem pow_all (n a : Nat) (hn : n < 8) (ha : a < n) : (2 ^ n - 1 - 2 ^ a) ||| 2 ^ n = 2 ^ (n + 1) - 1 - 2 ^ a ∧ (2 ^ n - 1 - 2 ^ a).testBit n = false ∧ (2 ^ n - 1 - 2 ^ a).testBit a = false ∧ 2 ^ n - 1 - 2 ^ a < 256 ∧ 2 ^ (n + 1) - 1 - 2 ^ n = 2 ^ n - 1 ∧ (2 ^ n - 1).testBit a = true := by
  have : ∀ n, n < 8 → ∀ a, a < n → (2 ^ n - 1 - 2 ^ a) ||| 2 ^ n = 2 ^ (n + 1) - 1 - 2 ^ a ∧ (2 ^ n - 1 - 2 ^ a).testBit n = false ∧ (2 ^ n - 1 - 2 ^ a).testBit a = false ∧ 2 ^ n - 1 - 2 ^ a < 256 ∧ 2 ^ (n + 1) - 1 - 2 ^ n = 2 ^ n - 1 ∧ (2 ^ n - 1).testBit a = true := by decide +kernel
  exact this n hn a ha
theorem way_all (W : List Nat) (hT : IsT W) : ∀ m, m + 1 ≤ W.length → ∃ a, a < m + 1 ∧ 0 < wN lfOne W m a (2 ^ (m + 1) - 1 - 2 ^ a)
  | 0, _ => ⟨0, by omega, by simp [wN, lfOne]⟩
  | m + 1, h => by
    have h8 := hT.h8
    obtain ⟨a, ha, hw⟩ := way_all W hT m (by omega)
    obtain ⟨q1, q2, q3, q4, q5, q6⟩ := pow_all (m + 1) a (by omega) ha
    cases hx : bt W a (m + 1) with
    | true =>
      refine ⟨a, by omega, ?_⟩
      rw [← q1]
      refine way_in W hT m a _ (m + 1) q4 (by omega) (by omega) ?_ q2 hx (by omega) q3 hw
      exact Nat.lt_of_le_of_lt (Nat.le_trans (Nat.sub_le _ _) (Nat.sub_le _ _)) (Nat.pow_lt_pow_right (a := 2) (by omega) (show m + 1 < W.length by omega))
    | false =>
      refine ⟨m + 1, by omega, ?_⟩
      rw [q5, wN_succ]
      have := hT.pair (m + 1) a (by omega) (by omega) (by omega)
      exact ⟨a, by omega, by rw [this, hx]; rfl, q6, hw⟩
/-- At the beginning there is one to begin with. -/
theorem first_begin (W : List Nat) (hT : IsT W) : ∃ b, (mem 8 (2 ^ W.length - 1)).find? (okF W (W.length - 1) [] (2 ^ W.length - 1)) = some b := by
  have h1 := hT.h1
  have h8 := hT.h8
  obtain ⟨a, ha, hw⟩ := way_all W hT (W.length - 1) (by omega)
  have e : W.length - 1 + 1 = W.length := by omega
  rw [e] at ha hw
  rw [← Option.isSome_iff_exists, List.find?_isSome]
  refine ⟨a, ?_, ?_⟩
  · rw [mem_all _ h8]; exact List.mem_range.2 ha
  · unfold okF
    rw [Bool.and_eq_true]
    exact ⟨rfl, decide_eq_true hw⟩
/-- And while some are left, there is one to go on with. -/
theorem first_next (W : List Nat) (f b left : Nat) (way : List Nat) (h : 0 < wN lfOne W (f + 1) b left) : ∃ x, (mem 8 left).find? (okF W f (way ++ [b]) left) = some x := by
  obtain ⟨x, h8, h1, h2, h3⟩ := (wN_succ W f b left).1 h
  rw [← Option.isSome_iff_exists, List.find?_isSome]
  refine ⟨x, (mem_mem 8 _ x).2 ⟨h8, h2⟩, ?_⟩
  unfold okF nxB
  rw [List.getLast?_append, Bool.and_eq_true]
  exact ⟨h1, decide_eq_true h3⟩
theorem firstL_some (W : List Nat) (hT : IsT W) : ∃ r, firstL W = some r := by
  obtain ⟨b, hb⟩ := first_begin W hT
  rw [firstL_eq W hT, hb, ← Option.isSome_iff_exists]
  have hp := List.find?_some hb
  unfold okF at hp
  rw [Bool.and_eq_true] at hp
  rw [Option.bind_some, fW_some]
  exact hp.2
end Go.Proofs.Ytkdfjkocfejfjaa
