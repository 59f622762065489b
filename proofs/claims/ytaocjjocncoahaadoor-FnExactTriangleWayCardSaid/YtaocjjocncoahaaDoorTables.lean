/- Slices of slices of int: a table that reads as rows of numbers; a table of a call's own; the laws' helpers on them, walked. -/
import Derived.Test.YtaocjjocncoahaaDoorPush
import Derived.Deep.RegionHeld3
namespace Go.Proofs.YtaocjjocncoahaaDoor
open Go.RowKit

/-- The outer slice's values. -/
def rowVs (hs : List (Option Addr × Nat)) (rs : List (List Int)) : List Value := List.zipWith (fun h r => Value.slice h.1 r.length h.2) hs rs
theorem rowVs_length (hs : List (Option Addr × Nat)) (rs : List (List Int)) (h : hs.length = rs.length) : (rowVs hs rs).length = rs.length := by simp [rowVs, h]
theorem rowVs_get (hs : List (Option Addr × Nat)) (rs : List (List Int)) (k : Nat) (h1 : k < hs.length) (h2 : k < rs.length) : (rowVs hs rs)[k]? = some (.slice hs[k].1 rs[k].length hs[k].2) := by
  simp [rowVs, List.getElem?_zipWith, h1, h2]
theorem rowVs_snoc (hs : List (Option Addr × Nat)) (rs : List (List Int)) (h : Option Addr × Nat) (r : List Int) (hl : hs.length = rs.length) : rowVs (hs ++ [h]) (rs ++ [r]) = rowVs hs rs ++ [.slice h.1 r.length h.2] := by
  unfold rowVs
  rw [List.zipWith_append hl]
  rfl

/-- A slice of slices at A that reads as the rows rs, below B. -/
def Table (w : World) (B : Nat) (A : Option Addr) (rs : List (List Int)) : Prop :=
  ∃ hs : List (Option Addr × Nat), hs.length = rs.length ∧ Row w B A (rowVs hs rs) ∧ ∀ i (h1 : i < hs.length) (h2 : i < rs.length), Row w B hs[i].1 (ints rs[i])
section
variable {w w' : World} {B B' : Nat} {A : Option Addr} {rs : List (List Int)}
theorem Table.keep (h : Table w B A rs) (hk : ∀ p : Addr, p.block < B → w'.cell? p = w.cell? p) : Table w' B A rs := by
  obtain ⟨hs, e, h1, h2⟩ := h
  exact ⟨hs, e, h1.keep hk, fun i a b => (h2 i a b).keep hk⟩
theorem Table.mono (h : Table w B A rs) (hB : B ≤ B') : Table w B' A rs := by
  obtain ⟨hs, e, h1, h2⟩ := h
  exact ⟨hs, e, h1.mono hB, fun i a b => (h2 i a b).mono hB⟩
theorem Table.below (h : Table w B A rs) (hb : Below B' w w') (hB : B ≤ B') : Table w' B A rs := h.keep fun p hp => hb.cell (p := p) (by omega)
theorem Table.rowAt (h : Table w B A rs) (hb : Below w.heap.size w w') (hB : B ≤ w.heap.size) : Table w' w'.heap.size A rs := (h.below hb hB).mono (Nat.le_trans hB hb.size)
theorem Table.rowOnly {lo hi : Nat} (h : Table w B A rs) (ho : Only lo hi w w') (hB : B ≤ lo) (hw : B ≤ w.heap.size) : Table w' B A rs := h.below (ho.below hB hw) (Nat.le_refl _)
theorem Table.drewN (h : Table w B A rs) (n : Nat) : Table (w.drewN n) B A rs := h
theorem Table.at_ (h : Table w B A rs) {k : Nat} (hk : k < rs.length) : ∃ b off A' c', A = some ⟨b, off, none⟩ ∧ b < B ∧ w.cell? ⟨b, off + k, none⟩ = some (.slice A' rs[k].length c') ∧ Row w B A' (ints rs[k]) := by
  obtain ⟨hs, e, h1, h2⟩ := h
  obtain ⟨b, off, ea, hb, hc⟩ := h1 (by rw [rowVs_length _ _ e]; omega)
  exact ⟨b, off, hs[k].1, hs[k].2, ea, hb, hc k _ (rowVs_get hs rs k (by omega) hk), h2 k (by omega) hk⟩
theorem Table.nil (w : World) (B : Nat) (A : Option Addr) : Table w B A [] := ⟨[], rfl, Row.nil _ _ _, fun i h => absurd h (by simp)⟩
end

/-- The rows themselves lie in blocks of the call's own, each in another. -/
def Inner (w : World) (lo hi : Nat) (hs : List (Option Addr × Nat)) (rs : List (List Int)) : Prop :=
  (∀ i (h1 : i < hs.length) (h2 : i < rs.length), Own w lo hi 3 hs[i].1 hs[i].2 (ints rs[i])) ∧ ∀ i j (h1 : i < hs.length) (h2 : j < hs.length), i ≠ j → hs[i].1 = none ∨ hs[i].1 ≠ hs[j].1
/-- A table of a call's own. -/
def OwnT (w : World) (lo hi : Nat) (A : Option Addr) (c : Nat) (rs : List (List Int)) : Prop :=
  ∃ hs : List (Option Addr × Nat), hs.length = rs.length ∧ Own w lo hi 22 A c (rowVs hs rs) ∧ Inner w lo hi hs rs
section
variable {w w' : World} {lo hi lo' hi' : Nat} {A : Option Addr} {c : Nat} {rs : List (List Int)} {hs : List (Option Addr × Nat)}
theorem Inner.keep (h : Inner w lo hi hs rs) (hk : ∀ g, lo ≤ g → g < hi → w'.heap[g]? = w.heap[g]?) : Inner w' lo hi hs rs := ⟨fun i a b => (h.1 i a b).keep hk, h.2⟩
theorem Inner.mono (h : Inner w lo hi hs rs) (h1 : lo' ≤ lo) (h2 : hi ≤ hi') : Inner w lo' hi' hs rs := ⟨fun i a b => (h.1 i a b).mono h1 h2, h.2⟩
theorem OwnT.keep (h : OwnT w lo hi A c rs) (hk : ∀ g, lo ≤ g → g < hi → w'.heap[g]? = w.heap[g]?) : OwnT w' lo hi A c rs := by
  obtain ⟨hs, e, h1, h2⟩ := h
  exact ⟨hs, e, h1.keep hk, h2.keep hk⟩
theorem OwnT.mono (h : OwnT w lo hi A c rs) (h1 : lo' ≤ lo) (h2 : hi ≤ hi') : OwnT w lo' hi' A c rs := by
  obtain ⟨hs, e, g1, g2⟩ := h
  exact ⟨hs, e, g1.mono h1 h2, g2.mono h1 h2⟩
theorem OwnT.below {B : Nat} (h : OwnT w lo hi A c rs) (hb : Below B w w') (hB : hi ≤ B) : OwnT w' lo hi A c rs := h.keep fun g _ hg => hb.block g (by omega)
theorem OwnT.alloc (h : OwnT w lo hi A c rs) (hB : hi ≤ w.heap.size) (o : Obj) : OwnT (w.alloc o) lo hi A c rs := h.keep fun g _ hg => Below.heap_alloc w o g (by omega)
theorem OwnT.drewN (h : OwnT w lo hi A c rs) (n : Nat) : OwnT (w.drewN n) lo hi A c rs := h
theorem OwnT.only (h : OwnT w lo hi A c rs) (ho : Only lo' hi' w w') (hB : hi ≤ w.heap.size) (hr : hi ≤ lo' ∨ hi' ≤ lo) : OwnT w' lo hi A c rs := h.keep fun g a b => ho.block g (by omega) (by omega)
theorem OwnT.setCell (h : OwnT w lo hi A c rs) {p : Addr} (hp : p.block < lo ∨ hi ≤ p.block) (u : Value) : OwnT (w.setCell p u) lo hi A c rs :=
  h.keep fun g a b => Below.heap_setCell w p u g (by omega)
theorem OwnT.nil (w : World) (lo hi : Nat) : OwnT w lo hi none 0 [] := ⟨[], rfl, Own.nil _ _ _ _, ⟨fun i h => absurd h (by simp), fun i j h => absurd h (by simp)⟩⟩
theorem OwnT.empty {w : World} {lo hi c : Nat} {A : Option Addr} (h : Own w lo hi 22 A c []) : OwnT w lo hi A c [] := ⟨[], rfl, h, ⟨fun i h => absurd h (by simp), fun i j h => absurd h (by simp)⟩⟩
theorem OwnT.table (h : OwnT w lo hi A c rs) : Table w hi A rs := by
  obtain ⟨hs, e, h1, h2⟩ := h
  exact ⟨hs, e, h1.row, fun i a b => (h2.1 i a b).row⟩
theorem OwnT.rowAt {W : World} (h : OwnT w lo hi A c rs) (hb : Below w.heap.size w W) (hhi : hi ≤ w.heap.size) : Table W W.heap.size A rs := (h.table.below hb hhi).mono (Nat.le_trans hhi hb.size)
theorem OwnT.len (h : OwnT w lo hi A c rs) : rs.length ≤ c ∧ c ≤ maxLen := by
  obtain ⟨hs, e, h1, h2⟩ := h
  have := h1.cap
  rwa [rowVs_length _ _ e] at this
end
/-- A block of int cells is none of slices of int. -/
theorem own_apart {w : World} {lo hi lo' hi' c c' : Nat} {A A' : Option Addr} {vs vs' : List Value} (h : Own w lo hi 22 A c vs) (h' : Own w lo' hi' 3 A' c' vs') : A = none ∨ A ≠ A' := by
  rcases h with ⟨e, _⟩ | ⟨g, cur, e, _, _, hh, _⟩
  · exact .inl e
  · right
    intro ee
    rcases h' with ⟨e', _⟩ | ⟨g', cur', e', _, _, hh', _⟩
    · rw [e, e'] at ee; cases ee
    · rw [e, e'] at ee
      simp only [Option.some.injEq, Addr.mk.injEq, and_true] at ee
      subst ee
      rw [hh] at hh'
      simp at hh'
theorem own_block {w : World} {lo hi c : Nat} {t : TypeId} {A : Option Addr} {vs : List Value} (h : Own w lo hi t A c vs) : A = none ∨ ∃ g, A = some ⟨g, 0, none⟩ ∧ lo ≤ g ∧ g < hi := by
  rcases h with ⟨e, _⟩ | ⟨g, cur, e, a, b, _⟩
  · exact .inl e
  · exact .inr ⟨g, e, a, b⟩
/-- A row whose block is not among those that were turned. -/
theorem Own.apart {w w' : World} {lo hi c : Nat} {t : TypeId} {A : Option Addr} {vs : List Value} (h : Own w lo hi t A c vs) (hk : ∀ g, A = some ⟨g, 0, none⟩ → w'.heap[g]? = w.heap[g]?) : Own w' lo hi t A c vs := by
  rcases h with h | ⟨g, cur, e, a, b, hh, r⟩
  · exact .inl h
  · exact .inr ⟨g, cur, e, a, b, (hk g e).trans hh, r⟩
theorem own_none {w : World} {lo hi lo' hi' c : Nat} {t : TypeId} {A : Option Addr} {vs : List Value} (h : Own w lo hi t A c vs) (hA : A = none) : Own w lo' hi' t A c vs := by
  rcases h with h | ⟨g, cur, e, _⟩
  · exact .inl h
  · rw [hA] at e; cases e
/-- A row of one's own, said of its own block alone. -/
theorem Own.one {w : World} {lo hi c g : Nat} {t : TypeId} {vs : List Value} (h : Own w lo hi t (some ⟨g, 0, none⟩) c vs) : Own w g (g + 1) t (some ⟨g, 0, none⟩) c vs ∧ lo ≤ g ∧ g < hi := by
  rcases h with ⟨e, _⟩ | ⟨g', cur, e, a, b, r⟩
  · cases e
  · simp only [Option.some.injEq, Addr.mk.injEq, and_true] at e
    subst e
    exact ⟨.inr ⟨g, cur, rfl, Nat.le_refl _, by omega, r⟩, a, b⟩

theorem ints_info : (Tryd.prog.info? 22).map (fun i => (i.zero, i.size, i.bytes)) = some (some (.slice none 0 0), 1, 24) := by kernel_rfl

/-- append(out, list): a row of the call's own behind a table of its own. -/
theorem wpList_pushT {ops : Array Oper} {rest : List Oper} {o : Oper} {a : Act} {Q : Exit → Act → World → Prop} {w : World} (hgd : o.guard = none) (s x : Operand)
    (ho : o.op = .call { callee := .builtin .append, args := #[s, x], argTypes := #[35, 35] })
    (lo m hi : Nat) (A : Option Addr) (c n : Nat) (rs : List (List Int)) (r : List Int) (g c1 q k : Nat) (hs : a.eval s = .slice A n c) (hx : a.eval x = .slice (some ⟨q, 0, none⟩) 1 1)
    (hn : n = rs.length) (hown : OwnT w lo m A c rs) (hin : Own w lo hi 3 (some ⟨g, 0, none⟩) c1 (ints r)) (hk : k = r.length) (hmg : m ≤ g) (hhi : hi ≤ w.heap.size) (hmw : m ≤ w.heap.size)
    (hcell : w.cell? ⟨q, 0, none⟩ = some (.slice (some ⟨g, 0, none⟩) k c1)) (hl : n ≤ 1099511627776) (hlo : lo ≤ w.heap.size)
    (h : ∀ A' c' w', OwnT w' lo w'.heap.size A' c' (rs ++ [r]) → Only lo m w w' → wpList Tryd.prog ops Q rest (a.put o.dst (.slice A' (n + 1) c')) w') : wpList Tryd.prog ops Q (o :: rest) a w := by
  subst hn hk
  obtain ⟨i0, hi0, hz0, hz1, hz2⟩ := info_parts ints_info
  obtain ⟨hs', e, hout, hinn⟩ := hown
  have hown' := hout.ownsRow
  rw [rowVs_length _ _ e] at hown'
  refine wpList_append_own w hgd s x _ ho lo 22 i0 _ 1 24 Tryd.underlying35 hi0 hz0 hz1 hz2 rfl (by decide) _ rs.length (rowVs hs' rs) hs hown' ⟨q, 0, none⟩ 1 1 [.slice (some ⟨g, 0, none⟩) r.length c1] hx rfl ?_ ?_ ?_ ?_ hlo ?_
  · intro j u hu
    match j, hu with
    | 0, hu =>
      simp at hu
      subst hu
      exact hcell
    | j + 1, hu => simp at hu
  · intro u hu
    simp at hu
    subst hu
    rfl
  · unfold maxLen; omega
  · omega
  · intro v' w' h1 h2 _
    obtain ⟨A', c', rfl, hlen, ho'⟩ := own_of_ownsRow h1
    have e' : (rowVs hs' rs ++ [Value.slice (some ⟨g, 0, none⟩) r.length c1]).length = rs.length + 1 := by rw [List.length_append, rowVs_length _ _ e]; rfl
    rw [e']
    have hkeep : ∀ b, b < w.heap.size → some b ≠ (Value.slice A rs.length c).ownBlock → w'.heap[b]? = w.heap[b]? := fun b h3 h4 => h2.block b h3 h4
    have hne : ∀ (b : Nat) (A1 : Option Addr) (c2 : Nat) (vs : List Value) (lo2 hi2 : Nat), Own w lo2 hi2 3 A1 c2 vs → A1 = some ⟨b, 0, none⟩ → some b ≠ (Value.slice A rs.length c).ownBlock := by
      intro b A1 c2 vs lo2 hi2 hA1 eb heq
      rcases own_apart hout hA1 with h5 | h5
      · subst h5; simp [Value.ownBlock] at heq
      · rcases own_block hout with h6 | ⟨g2, h6, _⟩
        · subst h6; simp [Value.ownBlock] at heq
        · subst h6
          simp only [Value.ownBlock, Option.some.injEq] at heq
          subst heq
          exact h5 eb.symm
    refine h A' c' w' ⟨hs' ++ [(some ⟨g, 0, none⟩, c1)], by simp [e], ?_, ?_, ?_⟩ (only_of_grown hout h2)
    · rw [rowVs_snoc _ _ _ _ e]
      exact ho'
    · intro i h3 h4
      by_cases hi2 : i < hs'.length
      · have hr : i < rs.length := by omega
        rw [List.getElem_append_left hi2, List.getElem_append_left hr]
        have := hinn.1 i hi2 hr
        refine Own.mono (Own.apart this fun b hb => hkeep b ?_ (hne b _ _ _ _ _ this hb)) (Nat.le_refl _) (Nat.le_trans hmw h2.size)
        rcases own_block this with h6 | ⟨g2, h6, _, h7⟩
        · rw [h6] at hb; cases hb
        · rw [h6] at hb
          simp only [Option.some.injEq, Addr.mk.injEq, and_true] at hb
          omega
      · have ei : i = hs'.length := by simp at h3; omega
        subst ei
        simp only [List.getElem_append_right (Nat.le_refl _), Nat.sub_self, List.getElem_cons_zero]
        rw [List.getElem_append_right (by omega)]
        simp only [e, Nat.sub_self, List.getElem_cons_zero]
        refine Own.mono (Own.apart hin fun b hb => hkeep b ?_ (hne b _ _ _ _ _ hin hb)) (Nat.le_refl _) (Nat.le_trans hhi h2.size)
        rcases own_block hin with h6 | ⟨g2, h6, _, h7⟩
        · cases h6
        · rw [h6] at hb
          simp only [Option.some.injEq, Addr.mk.injEq, and_true] at hb
          omega
    · intro i j h3 h4 hij
      have hfresh : ∀ i (hi2 : i < hs'.length), hs'[i].1 = none ∨ (hs'[i].1 ≠ some ⟨g, 0, none⟩) := by
        intro i hi2
        rcases own_block (hinn.1 i hi2 (by omega)) with h6 | ⟨g2, h6, _, h7⟩
        · exact .inl h6
        · right
          rw [h6]
          simp only [ne_eq, Option.some.injEq, Addr.mk.injEq, and_true]
          omega
      by_cases hi2 : i < hs'.length
      · by_cases hj2 : j < hs'.length
        · rw [List.getElem_append_left hi2, List.getElem_append_left hj2]
          exact hinn.2 i j hi2 hj2 hij
        · have ej : j = hs'.length := by simp at h4; omega
          subst ej
          rw [List.getElem_append_left hi2]
          simp only [List.getElem_append_right (Nat.le_refl _), Nat.sub_self, List.getElem_cons_zero]
          exact hfresh i hi2
      · have ei : i = hs'.length := by simp at h3; omega
        subst ei
        have hj2 : j < hs'.length := by simp at h4; omega
        rw [List.getElem_append_left hj2]
        simp only [List.getElem_append_right (Nat.le_refl _), Nat.sub_self, List.getElem_cons_zero]
        right
        intro ee
        rcases hfresh j hj2 with h6 | h6
        · rw [h6] at ee; cases ee
        · exact h6 ee.symm

/-- The call has laid a new table and turned nothing that was there. -/
def NewTable (w : World) (rs : List (List Int)) (e : Ending) (w' : World) : Prop :=
  ∃ A c, e = .returned (.slice A rs.length c) ∧ OwnT w' w.heap.size w'.heap.size A c rs ∧ Below w.heap.size w w'
/-- The same, with a word beside. -/
def NewTableOk (w : World) (rs : List (List Int)) (b : Bool) (e : Ending) (w' : World) : Prop :=
  ∃ A c, e = .returned (.tuple #[.slice A rs.length c, .bool b]) ∧ OwnT w' w.heap.size w'.heap.size A c rs ∧ Below w.heap.size w w'
theorem newTable_none {w w' : World} {rs : List (List Int)} (e : rs = []) (h : Below w.heap.size w w') : NewTable w rs (.returned (.slice none 0 0)) w' := by
  subst e
  exact ⟨none, 0, rfl, OwnT.nil _ _ _, h⟩

/-! ### The laws' helpers -/
theorem eqIntSS_any (A B : Option Addr) (c d : Nat) (rs : List (List Int)) (w : World) (h : Table w w.heap.size A rs) (h' : Table w w.heap.size B rs) (hl : rs.length ≤ 1099511627776) (hl2 : ∀ r ∈ rs, r.length ≤ 1099511627776) :
    Calls Tryd.prog 17 #[.slice A rs.length c, .slice B rs.length d] w fun e w' => e = .returned (.bool true) ∧ Below w.heap.size w w' := by
  have e0 : ((rs.length : Int) != (rs.length : Int)) = false := by simp
  go_enter Tryd.func17, Tryd.ntmps17
  go_wp2
  go_loopw [5] (fun i wr => ∃ k : Nat, k ≤ rs.length ∧ i = .int .i64 k ∧ Below w.heap.size w wr) (fun i _ => rs.length - (intOf i).toNat)
  case atStart => exact ⟨0, Nat.zero_le _, rfl, Below.refl _ _⟩
  case round =>
    obtain ⟨k, hk, rfl, hb⟩ := hrel
    by_cases hlt : k < rs.length
    · obtain ⟨b, off, A1, c1, rfl, hbB, hc, hr⟩ := (h.rowAt hb (Nat.le_refl _)).at_ hlt
      obtain ⟨b', off', A2, c2, rfl, hbB', hc', hr'⟩ := (h'.rowAt hb (Nat.le_refl _)).at_ hlt
      have hlk := hl2 rs[k] (List.getElem_mem hlt)
      generalize rs[k] = r at *
      have t0 : (0 : Int) ≤ (k : Int) := by omega
      have t1 : (k : Int) < (rs.length : Int) := by omega
      go_wp2
      go_region_held3 (fun w' => Below wr.heap.size wr w' ∧ w'.cell? ⟨b, off + k, none⟩ = some (.slice A1 r.length c1) ∧ w'.cell? ⟨b', off' + k, none⟩ = some (.slice A2 r.length c2))
        (first | exact ⟨Below.refl _ _, hc, hc'⟩ | exact ⟨(Below.refl _ _).drew, hc, hc'⟩ | exact ⟨hq, hd, hd'⟩)
        ((go_at_call 27; refine (eqIntS_any A1 A2 c1 c2 r _ (hr.rowAt (by first | exact Below.refl _ _ | exact (Below.refl _ _).drew) (Nat.le_refl _)) (hr'.rowAt (by first | exact Below.refl _ _ | exact (Below.refl _ _).drew) (Nat.le_refl _)) hlk).mono ?_; rintro e wq ⟨rfl, hbq⟩; have hq : Below wr.heap.size wr wq := (by first | exact below_trans (Below.refl _ _) hbq | exact below_trans (Below.refl _ _).drew hbq); have hd := (hq.cell (p := ⟨b, off + k, none⟩) hbB).trans hc; have hd' := (hq.cell (p := ⟨b', off' + k, none⟩) hbB').trans hc'))
      go_wp2
      go_roundw
      case rel => exact ⟨k + 1, by omega, by go_num, below_trans hb hq⟩
      case measure => simp [intOf]; omega
    · go_wp2
      go_ret
      exact ⟨rfl, hb⟩

/-- The marks that a table's rows get. -/
def markRows : Int → List (List Int) → List (List Int)
  | _, [] => []
  | k, r :: rs => marks k r.length :: markRows (k + (r.length : Int)) rs
/-- How many numbers a table holds. -/
def total : List (List Int) → Nat
  | [] => 0
  | r :: rs => r.length + total rs
theorem markRows_length (k : Int) (rs : List (List Int)) : (markRows k rs).length = rs.length := by
  induction rs generalizing k with
  | nil => rfl
  | cons r rs ih => simp [markRows, ih]
theorem total_snoc (rs : List (List Int)) (r : List Int) : total (rs ++ [r]) = total rs + r.length := by
  induction rs with
  | nil => simp [total]
  | cons x rs ih => simp only [List.cons_append, total, ih]; omega
theorem markRows_snoc (k : Int) (rs : List (List Int)) (r : List Int) : markRows k (rs ++ [r]) = markRows k rs ++ [marks (k + (total rs : Int)) r.length] := by
  induction rs generalizing k with
  | nil => simp [markRows, total]
  | cons x rs ih =>
    simp only [List.cons_append, markRows, ih, total]
    rw [show k + (x.length : Int) + (total rs : Int) = k + ((x.length + total rs : Nat) : Int) by omega]
theorem markRows_get (k : Int) (rs : List (List Int)) (j : Nat) (hj : j < rs.length) (h : j < (markRows k rs).length) : (markRows k rs)[j] = marks (k + (total (rs.take j) : Int)) rs[j].length := by
  induction rs generalizing k j with
  | nil => simp at hj
  | cons r rs ih =>
    cases j with
    | zero => simp [markRows, total]
    | succ j =>
      simp only [markRows, List.getElem_cons_succ, List.take_succ_cons, total]
      rw [ih _ j (by simpa using hj)]
      rw [show k + (r.length : Int) + (total (rs.take j) : Int) = k + ((r.length + total (rs.take j) : Nat) : Int) by omega]
theorem total_take (rs : List (List Int)) (j : Nat) (hj : j < rs.length) : total (rs.take (j + 1)) = total (rs.take j) + rs[j].length := by
  rw [List.take_succ_eq_append_getElem hj, total_snoc]
theorem total_le (rs : List (List Int)) (j : Nat) : total (rs.take j) ≤ total rs := by
  induction rs generalizing j with
  | nil => simp
  | cons r rs ih =>
    cases j with
    | zero => simp [total]
    | succ j => simp only [List.take_succ_cons, total]; have := ih j; omega
/-- The rows when j of them are marked. -/
def markSt (k : Int) (rs : List (List Int)) (j : Nat) : List (List Int) := markRows k (rs.take j) ++ rs.drop j
theorem markRows_take (k : Int) (rs : List (List Int)) (j : Nat) : (markRows k (rs.take j)).length = min j rs.length := by rw [markRows_length, List.length_take]
theorem markSt_length (k : Int) (rs : List (List Int)) (j : Nat) : (markSt k rs j).length = rs.length := by
  unfold markSt
  rw [List.length_append, markRows_length, List.length_take, List.length_drop]
  omega
theorem markSt_get? (k : Int) (rs : List (List Int)) (j : Nat) (hj : j < rs.length) : (markSt k rs j)[j]? = some rs[j] := by
  have hm := markRows_take k rs j
  unfold markSt
  rw [List.getElem?_append_right (by omega), hm, List.getElem?_drop, show j + (j - min j rs.length) = j by omega, List.getElem?_eq_getElem hj]
theorem markSt_get (k : Int) (rs : List (List Int)) (j : Nat) (hj : j < rs.length) (h : j < (markSt k rs j).length) : (markSt k rs j)[j] = rs[j] := by
  have := markSt_get? k rs j hj
  rw [List.getElem?_eq_getElem h] at this
  simpa using this
theorem markSt_len? (k : Int) (rs : List (List Int)) (j i : Nat) (hi : i < rs.length) : ((markSt k rs j)[i]?).map List.length = some rs[i].length := by
  have hm := markRows_take k rs j
  unfold markSt
  by_cases hij : i < j
  · have hi2 : i < (rs.take j).length := by rw [List.length_take]; omega
    rw [List.getElem?_append_left (by omega), List.getElem?_eq_getElem (by omega), markRows_get _ _ i hi2]
    simp [marks_length]
  · rw [List.getElem?_append_right (by omega), hm, List.getElem?_drop, show j + (i - min j rs.length) = i by omega, List.getElem?_eq_getElem hi]
    rfl
theorem markSt_next (k : Int) (rs : List (List Int)) (j : Nat) (hj : j < rs.length) : markSt k rs (j + 1) = (markSt k rs j).set j (marks (k + (total (rs.take j) : Int)) rs[j].length) := by
  unfold markSt
  rw [List.take_succ_eq_append_getElem hj, markRows_snoc, List.set_append_right _ _ (by rw [markRows_take]; omega), markRows_take]
  rw [show j - min j rs.length = 0 by omega, List.drop_eq_getElem_cons hj, List.set_cons_zero, List.append_assoc]
  rfl
theorem markSt_end (k : Int) (rs : List (List Int)) : markSt k rs rs.length = markRows k rs := by simp [markSt]

def MarkedT (w : World) (lo hi : Nat) (A : Option Addr) (c : Nat) (k : Int) (rs : List (List Int)) (e : Ending) (w' : World) : Prop :=
  e = .returned (.int .i64 (k + (total rs : Int))) ∧ OwnT w' lo hi A c (markRows k rs) ∧ Only lo hi w w'

theorem rowVs_mark (hs : List (Option Addr × Nat)) (k : Int) (rs : List (List Int)) (j : Nat) : rowVs hs (markSt k rs j) = rowVs hs rs := by
  have hlen : ∀ i (h1 : i < (markSt k rs j).length) (h2 : i < rs.length), (markSt k rs j)[i].length = rs[i].length := by
    intro i h1 h2
    have := markSt_len? k rs j i h2
    rw [List.getElem?_eq_getElem h1] at this
    simpa using this
  unfold rowVs
  apply List.ext_getElem
  · simp [markSt_length]
  · intro i h1 h2
    simp only [List.length_zipWith, markSt_length] at h1 h2
    simp only [List.getElem_zipWith]
    rw [hlen i (by rw [markSt_length]; omega) (by omega)]
theorem markIntSS_any (A : Option Addr) (c : Nat) (rs : List (List Int)) (k : Int) (lo hi : Nat) (w : World) (h : OwnT w lo hi A c rs) (hhi : hi ≤ w.heap.size)
    (hl : rs.length ≤ 1099511627776) (ht : total rs ≤ 1000000) (h0 : 0 ≤ k) (h1 : k ≤ 1) :
    Calls Tryd.prog 18 #[.slice A rs.length c, .int .i64 k] w (MarkedT w lo hi A c k rs) := by
  obtain ⟨hs, e, hout, hinn⟩ := h
  go_enter Tryd.func18, Tryd.ntmps18
  go_wp2
  go_loopw [1, 5] (fun m i wr => ∃ j : Nat, j ≤ rs.length ∧ i = .int .i64 j ∧ m = .int .i64 (k + (total (rs.take j) : Int)) ∧ Own wr lo hi 22 A c (rowVs hs rs) ∧ Inner wr lo hi hs (markSt k rs j) ∧ Only lo hi w wr) (fun _ i _ => rs.length - (intOf i).toNat)
  case atStart => exact ⟨0, Nat.zero_le _, rfl, by simp [total], hout, by simpa [markSt, markRows] using hinn, Only.refl _ _ _⟩
  case round =>
    obtain ⟨j, hj, rfl, rfl, ho, hin, hb⟩ := hrel
    have htl := total_le rs j
    by_cases hlt : j < rs.length
    · obtain ⟨g, rfl, hg1, hg2, hc, hf⟩ := ho.at_ (k := j) (by rw [rowVs_length _ _ e]; exact hlt)
      have hcv : (rowVs hs rs)[j]'(by rw [rowVs_length _ _ e]; exact hlt) = .slice hs[j].1 rs[j].length hs[j].2 := by simp [rowVs]
      rw [hcv] at hc
      have hj1 : j < hs.length := by omega
      have hin1 := hin.1 j hj1 (by rw [markSt_length]; exact hlt)
      rw [markSt_get _ _ _ hlt] at hin1
      have hsz := hb.size
      have htt := total_take rs j hlt
      have htl2 := total_le rs (j + 1)
      have HN := Lib.hid (markSt_next k rs j hlt)
      have HIN := Lib.hid hin
      have HO := Lib.hid ho
      have HT := Lib.hid htt
      have hrl : rs[j].length ≤ 1099511627776 := by omega
      clear hin ho hcv htt
      rcases own_block hin1 with hnone | ⟨g1, hsome, hga, hgb⟩
      · -- an empty row
        have hnil : rs[j] = [] := by
          rcases hin1 with ⟨_, h5, _⟩ | ⟨g2, cur, h5, _⟩
          · simpa [ints] using h5
          · rw [hnone] at h5; cases h5
        have HNIL := Lib.hid hnil
        have HC := Lib.hid (markIntS_any hs[j].1 hs[j].2 rs[j] (k + (total (rs.take j) : Int)) lo lo wr (own_none hin1 hnone) hrl (by omega) (by omega))
        have HL : Hid (rs[j].length = 0) := Lib.hid (by rw [hnil]; rfl)
        clear hnil hnone hin1
        go_wp2_with fail
        refine HC.out.mono ?_
        rintro e2 w2 ⟨rfl, _, hon⟩
        go_wp2
        go_roundw
        case rel =>
          refine ⟨j + 1, by omega, by go_num, by rw [HT.out]; go_num, HO.out.keep fun b h5 h6 => hon.block b (by omega) (by omega), ?_, hb.trans (hon.mono (Nat.le_refl _) (by omega))⟩
          rw [HN.out]
          have : (markSt k rs j).set j (marks (k + (total (rs.take j) : Int)) rs[j].length) = markSt k rs j := by
            apply List.ext_getElem
            · simp
            · intro i h5 h6
              rw [List.getElem_set]
              split
              · rename_i hji; subst hji; rw [markSt_get _ _ _ hlt, HNIL.out]; rfl
              · rfl
          rw [this]
          exact HIN.out.keep fun b h5 h6 => hon.block b (by omega) (by omega)
        case measure => simp [intOf]; omega
      · rw [hsome] at hin1
        obtain ⟨hone, _, _⟩ := hin1.one
        have HC := Lib.hid (markIntS_any _ hs[j].2 rs[j] (k + (total (rs.take j) : Int)) g1 (g1 + 1) wr hone hrl (by omega) (by omega))
        rw [hsome] at hc
        have HS := Lib.hid hsome
        have HIN1 := Lib.hid hin1
        clear hsome hone hin1
        go_wp2_with fail
        refine HC.out.mono ?_
        rintro e2 w2 ⟨rfl, hnew, hon⟩
        have HNEW := Lib.hid hnew
        clear hnew
        go_wp2
        go_roundw
        case rel =>
          have hgne : g ≠ g1 := by
            rcases own_apart HO.out HIN1.out with h5 | h5
            · cases h5
            · intro h6; subst h6; exact h5 rfl
          refine ⟨j + 1, by omega, by go_num, by rw [HT.out]; go_num, ?_, ⟨fun i h5 h6 => ?_, HIN.out.2⟩, hb.trans (hon.mono hga (by omega))⟩
          · refine HO.out.apart fun b h5 => hon.block b ?_ ?_
            · simp only [Option.some.injEq, Addr.mk.injEq, and_true] at h5
              omega
            · simp only [Option.some.injEq, Addr.mk.injEq, and_true] at h5
              omega
          · have h7 : i < (markSt k rs j).length := by rw [markSt_length] at *; exact h6
            by_cases hij : i = j
            · subst hij
              have e3 : (markSt k rs (i + 1))[i] = marks (k + (total (rs.take i) : Int)) rs[i].length := by
                simp only [HN.out, List.getElem_set_self]
              rw [e3, HS.out]
              exact HNEW.out.mono hga (by omega)
            · have e3 : (markSt k rs (j + 1))[i] = (markSt k rs j)[i] := by
                simp only [HN.out]
                rw [List.getElem_set_ne (by omega)]
              rw [e3]
              have h8 := HIN.out.1 i h5 h7
              refine h8.apart fun b hb2 => hon.block b ?_ ?_
              · rcases own_block h8 with h9 | ⟨g2, h9, _, h10⟩
                · rw [h9] at hb2; cases hb2
                · rw [h9] at hb2
                  simp only [Option.some.injEq, Addr.mk.injEq, and_true] at hb2
                  omega
              · have hne : b ≠ g1 := by
                  intro h9
                  subst h9
                  rcases HIN.out.2 i j h5 hj1 hij with h10 | h10
                  · rw [h10] at hb2; cases hb2
                  · exact h10 (hb2.trans HS.out.symm)
                omega
        case measure => simp [intOf]; omega
    · obtain rfl : j = rs.length := by omega
      have HIN := Lib.hid hin
      have HO := Lib.hid ho
      clear ho hin
      go_wp2
      go_ret
      refine ⟨ret_int (by rw [List.take_of_length_le (Nat.le_refl _)]), ⟨hs, by rw [markRows_length, e], ?_, ?_⟩, hb⟩
      · rw [← markSt_end, rowVs_mark]; exact HO.out
      · rw [← markSt_end]; exact HIN.out

theorem heldIntSS_any (A : Option Addr) (c n : Nat) (rs : List (List Int)) (k : Int) (w : World) (h : Table w w.heap.size A (markRows k rs)) (hn : n = rs.length) (hl : n ≤ 1099511627776) (ht : total rs ≤ 1000000) (h0 : 0 ≤ k) (h1 : k ≤ 1) :
    Calls Tryd.prog 19 #[.slice A n c, .int .i64 k] w fun e w' => e = .returned (.int .i64 (k + (total rs : Int))) ∧ w = w' := by
  subst hn
  go_enter Tryd.func19, Tryd.ntmps19
  go_wp2
  go_loop [1, 5] (fun m i => ∃ j : Nat, j ≤ rs.length ∧ i = .int .i64 j ∧ m = .int .i64 (k + (total (rs.take j) : Int))) (fun _ i => rs.length - (intOf i).toNat)
  case atStart => exact ⟨0, Nat.zero_le _, rfl, by simp [total]⟩
  case round =>
    obtain ⟨j, hj, rfl, rfl⟩ := hrel
    by_cases hlt : j < rs.length
    · obtain ⟨b, off, A1, c1, rfl, hbB, hc, hr⟩ := h.at_ (k := j) (by rw [markRows_length]; exact hlt)
      rw [markRows_get _ _ _ hlt] at hr hc
      rw [marks_length] at hc
      have htt := total_take rs j hlt
      have htl2 := total_le rs (j + 1)
      have HT := Lib.hid htt
      have htl := total_le rs j
      have HC := Lib.hid (heldIntS_any A1 c1 rs[j].length (k + (total (rs.take j) : Int)) w hr (by omega) (by omega) (by omega))
      clear htt hr h
      go_wp2_with fail
      refine HC.out.mono ?_
      rintro e w' ⟨rfl, rfl⟩
      go_wp2
      go_round
      case rel => exact ⟨j + 1, by omega, by go_num, by rw [HT.out]; go_num⟩
      case measure => simp [intOf]; omega
    · obtain rfl : j = rs.length := by omega
      go_wp2
      go_ret
      exact ⟨rfl, rfl⟩
end Go.Proofs.YtaocjjocncoahaaDoor
