/- A map from tours (by their texts) to numbers, of a call's own. An append to a table, with a sharper word on the world. What the program's search holds: the map, the queue. -/
import Derived.Test.YtaocjjocncoahaaDoorPTourP
import Derived.Test.YtaocjjocncoahaaDoorDistP
import Derived.Maps.OwnSet
import Derived.WalkArith
import Derived.Test.YtaocjjocncoahaaDoorTables
import Derived.Test.YtaocjjocncoahaaDoorWayP
namespace Go.Proofs.YtaocjjocncoahaaDoor
set_option linter.unusedVariables false
set_option linter.unusedSimpArgs false
section
open Go.RowKit

def klT (V : List Nat) : Lit := .string (textOf V).data.toList
def num0 (k : Int) : DataW Unit := .lit (.int .i64 k)
theorem textOf_size (V : List Nat) (hV : IsT V) : (textOf V).size ≤ 1048576 := by
  have h := fmS_le V hV.h8 V.length 0 hV.h8 (by omega)
  have e : (textOf V).size = (textOf V).data.toList.length := Array.length_toList.symm
  rw [e, textOf_data]
  omega
theorem klT_key {V : List Nat} (hV : IsT V) : keyOf Tryd.prog 9 (.string (textOf V)) = some (klT V) :=
  WideMaps.keyOf_string_mk Tryd.underlying9 (Nat.le_trans (textOf_size V hV) (by decide))
theorem klT_ne {V W : List Nat} (hV : IsT V) (hW : IsT W) (h : V ≠ W) : klT V ≠ klT W := by
  intro e
  unfold klT at e
  simp only [Lit.string.injEq] at e
  exact h (textOf_inj V W hV hW (by
    have : (textOf V).data = (textOf W).data := Array.toList_inj.1 e
    exact ByteArray.ext this))
/-- The map in block b reads as S: the tours of n players that are known, each with its distance. -/
def MapT (w : World) (b m n : Nat) (S : Known) : Prop :=
  ∃ D : DataW Unit, w.ownsMap Tryd.prog 9 (plainElem Tryd.prog 3) b m D ∧ Maps.IsMap D ∧ Maps.size D = S.length ∧ ∀ V, IsT V → V.length = n → Maps.has D (klT V) = (S.lookup V).isSome ∧ D.atKey (klT V) (num0 0) = num0 (((S.lookup V).getD 0 : Nat) : Int)
theorem MapT.made (w : World) (n : Nat) : MapT (w.alloc (.map #[] 0)) w.heap.size 0 n [] :=
  ⟨.map [], World.ownsMap_made w _ _ _, ⟨[], rfl⟩, rfl, fun V _ _ => ⟨rfl, rfl⟩⟩
theorem MapT.lt {w : World} {b m n : Nat} {S : Known} (h : MapT w b m n S) : b < w.heap.size := by
  obtain ⟨D, h1, _⟩ := h
  exact h1.lt
theorem MapT.keep {w w' : World} {b m n : Nat} {S : Known} (h : MapT w b m n S) (hk : w'.heap[b]? = w.heap[b]?) : MapT w' b m n S := by
  obtain ⟨D, ⟨es, clock, h0, h1⟩, h2⟩ := h
  exact ⟨D, ⟨es, clock, hk.trans h0, h1⟩, h2⟩
theorem MapT.below {w w' : World} {b m n : Nat} {S : Known} (h : MapT w b m n S) (hb : Below w.heap.size w w') : MapT w' b m n S := h.keep (hb.block b h.lt)
theorem MapT.put {w' : World} {b m n : Nat} {S : Known} {D : DataW Unit} {V : List Nat} {k : Nat} (ht : Maps.Tidy D) (hm : Maps.IsMap D) (hz : Maps.size D = S.length) (h : ∀ V, IsT V → V.length = n → Maps.has D (klT V) = (S.lookup V).isSome ∧ D.atKey (klT V) (num0 0) = num0 (((S.lookup V).getD 0 : Nat) : Int))
    (hV : IsT V) (hl : V.length = n) (hs : (S.lookup V).isSome = false) (h' : w'.ownsMap Tryd.prog 9 (plainElem Tryd.prog 3) b m (D.put (klT V) (num0 (k : Int)))) : MapT w' b m n (S ++ [(V, k)]) := by
  refine ⟨_, h', hm.put _ _, ?_, fun X hX hl => ?_⟩
  · rw [Maps.size_put ht, (h V hV hl).1, hs, hz]
    simp
  rw [lookup_app]
  by_cases e : X = V
  · subst e
    have e2 : S.lookup X = none := by simpa using hs
    rw [Maps.has_put_same hm (by unfold klT; trivial), Maps.atKey_put_same hm (by unfold klT; trivial), e2]
    simp
  · have hne : klT X ≠ klT V := klT_ne hX hV e
    rw [Maps.has_put_other hne, Maps.atKey_put_other hne]
    have hb : (X == V) = false := by simpa using e
    rw [hb]
    simpa using h X hX hl
/-- How many entries the map in block b has. -/
def mapN (w : World) (b : Nat) : Nat := match w.heap[b]? with
  | some (.map es _) => es.size
  | _ => 0
theorem MapT.size {w : World} {b m n : Nat} {S : Known} (h : MapT w b m n S) : mapN w b = S.length := by
  obtain ⟨D, ⟨es, clock, h0, h1, h2, rfl⟩, _, h3, _⟩ := h
  rw [← h3]
  unfold mapN
  rw [h0]
  simp [Maps.size, length_sorted]
/-- m[text] = k. -/
theorem wpList_putT {ops : Array Oper} {rest : List Oper} {o : Oper} {a : Act} {Q : Exit → Act → World → Prop} {w : World} (hg : o.guard = none) (m x v : Operand) (hop : o.op = Op.mapUpdate 54 m x v)
    (b c n : Nat) (S : Known) (V : List Nat) (k : Nat) (hm : a.eval m = .map (some b)) (hx : a.eval x = .string (textOf V)) (hv : a.eval v = .int .i64 (k : Int)) (hS : MapT w b c n S) (hc : c ≤ 1048576) (hk : k ≤ 1048576) (hV : IsT V) (hl : V.length = n) (hs : (S.lookup V).isSome = false)
    (hK : ∀ w', MapT w' b (c + 1) n (S ++ [(V, k)]) → w.grownBy w' (some b) → wpList Tryd.prog ops Q rest (a.put o.dst undef) w') : wpList Tryd.prog ops Q (o :: rest) a w := by
  obtain ⟨D, h1, h2, h4, h3⟩ := hS
  refine wpList_mapUpdate_own w hg m x v _ hop _ _ (Maps.string_keyed Tryd.underlying9) Tryd.underlying54 _ b c D hm h1 (by unfold maxLen; omega) _ _ (klT V) hx hv (klT_key hV) (num0 (k : Int)) [] (plainElem_int Tryd.underlying3 (WalkArith.wf_i64 (by omega))) ?_
  exact fun w' g1 g2 => hK w' (MapT.put (h1.tidy (Maps.string_keyed Tryd.underlying9)) h2 h4 h3 hV hl hs g1) g2
/-- A map literal's entry. -/
theorem wpList_insT {ops : Array Oper} {rest : List Oper} {o : Oper} {a : Act} {Q : Exit → Act → World → Prop} {w : World} (hg : o.guard = none) (m x v : Operand) (hop : o.op = Op.insert 54 m x v)
    (b c n : Nat) (S : Known) (V : List Nat) (k : Nat) (hm : a.eval m = .map (some b)) (hx : a.eval x = .string (textOf V)) (hv : a.eval v = .int .i64 (k : Int)) (hS : MapT w b c n S) (hc : c ≤ 1048576) (hk : k ≤ 1048576) (hV : IsT V) (hl : V.length = n) (hs : (S.lookup V).isSome = false)
    (hK : ∀ w', MapT w' b (c + 1) n (S ++ [(V, k)]) → w.grownBy w' (some b) → wpList Tryd.prog ops Q rest (a.put o.dst undef) w') : wpList Tryd.prog ops Q (o :: rest) a w := by
  obtain ⟨D, h1, h2, h4, h3⟩ := hS
  refine wpList_plain hg fun K' hK' => ?_
  obtain ⟨w', hrun, r1, r2⟩ := h1.update (Maps.string_keyed Tryd.underlying9) Tryd.underlying54 (by unfold maxLen; omega) (klT_key hV) (plainElem_int (H := Unit) Tryd.underlying3 (WalkArith.wf_i64 (n := (k : Int)) (by omega)))
  unfold Oper.wp
  simp [execOp, hop, hm, hx, hv, hrun, Result.andThen]
  exact hK' _ _ (hK w' (MapT.put (h1.tidy (Maps.string_keyed Tryd.underlying9)) h2 h4 h3 hV hl hs r1) r2)
/-- m[text]. -/
theorem wpList_lookT {ops : Array Oper} {rest : List Oper} {o : Oper} {a : Act} {Q : Exit → Act → World → Prop} {w : World} (hg : o.guard = none) (m x : Operand) (hop : o.op = Op.lookup 54 m x false)
    (b c n : Nat) (S : Known) (V : List Nat) (hm : a.eval m = .map (some b)) (hx : a.eval x = .string (textOf V)) (hS : MapT w b c n S) (hV : IsT V) (hl : V.length = n) (hz : (zeroValue 3).run Tryd.prog w = .ok (.int .i64 0) w)
    (hK : wpList Tryd.prog ops Q rest (a.put o.dst (.int .i64 (((S.lookup V).getD 0 : Nat) : Int))) w) : wpList Tryd.prog ops Q (o :: rest) a w := by
  obtain ⟨D, h1, h2, h4, h3⟩ := hS
  refine wpList_lookup_own_int w hg m x _ hop _ _ .i64 (Maps.string_keyed Tryd.underlying9) Tryd.underlying54 Tryd.underlying3 hz b c D hm h1 _ (klT V) hx (klT_key hV) ?_
  intro z hz1 _
  have := (h3 V hV hl).2.symm.trans hz1
  unfold num0 at this
  simp at this
  subst this
  exact hK
/-- v, ok := m[text]. -/
theorem wpList_lookOkT {ops : Array Oper} {rest : List Oper} {o : Oper} {a : Act} {Q : Exit → Act → World → Prop} {w : World} (hg : o.guard = none) (m x : Operand) (hop : o.op = Op.lookup 54 m x true)
    (b c n : Nat) (S : Known) (V : List Nat) (hm : a.eval m = .map (some b)) (hx : a.eval x = .string (textOf V)) (hS : MapT w b c n S) (hV : IsT V) (hl : V.length = n) (hz : (zeroValue 3).run Tryd.prog w = .ok (.int .i64 0) w)
    (hK : wpList Tryd.prog ops Q rest (a.put o.dst (.tuple #[.int .i64 (((S.lookup V).getD 0 : Nat) : Int), .bool (S.lookup V).isSome])) w) : wpList Tryd.prog ops Q (o :: rest) a w := by
  obtain ⟨D, h1, h2, h4, h3⟩ := hS
  refine wpList_lookup_own_ok_int w hg m x _ hop _ _ .i64 (Maps.string_keyed Tryd.underlying9) Tryd.underlying54 Tryd.underlying3 hz b c D hm h1 _ (klT V) hx (klT_key hV) ?_
  intro z hz1 _
  have := (h3 V hV hl).2.symm.trans hz1
  unfold num0 at this
  simp at this
  subst this
  rw [(h3 V hV hl).1]
  exact hK
/-- m[text] = k, as one step of a region that draws. -/
theorem step_putT {ops : Array Oper} {o : Oper} {a : Act} {w : World} {K : Act → World → Prop} {Q : Exit → Act → World → Prop} {E : Prop} (hg : o.guard = none) (m x v : Operand) (hop : o.op = Op.mapUpdate 54 m x v)
    (b c n : Nat) (S : Known) (V : List Nat) (k : Nat) (hm : a.eval m = .map (some b)) (hx : a.eval x = .string (textOf V)) (hv : a.eval v = .int .i64 (k : Int)) (hS : MapT w b c n S) (hc : c ≤ 1048576) (hk : k ≤ 1048576) (hV : IsT V) (hl : V.length = n) (hs : (S.lookup V).isSome = false)
    (hK : ∀ w', MapT w' b (c + 1) n (S ++ [(V, k)]) → w.grownBy w' (some b) → K (a.put o.dst undef) w') :
    if Region.wanted o (yielded ops a.tmps) = true then Oper.wp Tryd.prog o a w K Q else E := by
  have hw : Region.wanted o (yielded ops a.tmps) = true := by simp [Region.wanted, hg]
  rw [if_pos hw]
  obtain ⟨D, h1, h2, h4, h3⟩ := hS
  obtain ⟨w', hrun, r1, r2⟩ := h1.update (Maps.string_keyed Tryd.underlying9) Tryd.underlying54 (by unfold maxLen; omega) (klT_key hV) (plainElem_int (H := Unit) Tryd.underlying3 (WalkArith.wf_i64 (n := (k : Int)) (by omega)))
  unfold Oper.wp
  simp [execOp, hop, hm, hx, hv, hrun, Result.andThen]
  exact hK w' (MapT.put (h1.tidy (Maps.string_keyed Tryd.underlying9)) h2 h4 h3 hV hl hs r1) r2
/-- m[text], as one step of a region that draws. -/
theorem step_lookT {ops : Array Oper} {o : Oper} {a : Act} {w : World} {K : Act → World → Prop} {Q : Exit → Act → World → Prop} {E : Prop} (hg : o.guard = none) (m x : Operand) (hop : o.op = Op.lookup 54 m x false)
    (b c n : Nat) (S : Known) (V : List Nat) (hm : a.eval m = .map (some b)) (hx : a.eval x = .string (textOf V)) (hS : MapT w b c n S) (hV : IsT V) (hl : V.length = n) (hz : (zeroValue 3).run Tryd.prog w = .ok (.int .i64 0) w)
    (hK : K (a.put o.dst (.int .i64 (((S.lookup V).getD 0 : Nat) : Int))) w) :
    if Region.wanted o (yielded ops a.tmps) = true then Oper.wp Tryd.prog o a w K Q else E := by
  have hw : Region.wanted o (yielded ops a.tmps) = true := by simp [Region.wanted, hg]
  rw [if_pos hw]
  obtain ⟨D, h1, h2, h4, h3⟩ := hS
  obtain ⟨z, hrun, hz1, _⟩ := h1.lookup_int (Maps.string_keyed Tryd.underlying9) Tryd.underlying54 Tryd.underlying3 hz (klT_key hV)
  have := (h3 V hV hl).2.symm.trans hz1
  unfold num0 at this
  simp at this
  subst this
  unfold Oper.wp
  simp [execOp, hop, hm, hx, hrun, Result.andThen]
  exact hK
/-- The look-up's own equation, for a walk that takes it as it stands. -/
theorem MapT.look {w : World} {b c n : Nat} {S : Known} {V : List Nat} (hS : MapT w b c n S) (hV : IsT V) (hl : V.length = n) (hz : (zeroValue 3).run Tryd.prog w = .ok (.int .i64 0) w) :
    (Instr.lookup 54 (.map (some b)) (.string (textOf V)) false).run Tryd.prog w = .ok (.int .i64 (((S.lookup V).getD 0 : Nat) : Int)) w := by
  obtain ⟨D, h1, h2, h4, h3⟩ := hS
  obtain ⟨z, hrun, hz1, _⟩ := h1.lookup_int (Maps.string_keyed Tryd.underlying9) Tryd.underlying54 Tryd.underlying3 hz (klT_key hV)
  have := (h3 V hV hl).2.symm.trans hz1
  unfold num0 at this
  simp at this
  subst this
  exact hrun
theorem zeroT (w : World) : (zeroValue 3).run Tryd.prog w = .ok (.int .i64 0) w := by kernel_rfl
end
section
open Go.RowKit

/-- append(out, list), as wpList_pushT; said as well: no block but the table's own turns. -/
theorem wpList_pushT2 {ops : Array Oper} {rest : List Oper} {o : Oper} {a : Act} {Q : Exit → Act → World → Prop} {w : World} (hgd : o.guard = none) (s x : Operand)
    (ho : o.op = .call { callee := .builtin .append, args := #[s, x], argTypes := #[35, 35] })
    (lo m hi : Nat) (A : Option Addr) (c n : Nat) (rs : List (List Int)) (r : List Int) (g c1 q k : Nat) (hs : a.eval s = .slice A n c) (hx : a.eval x = .slice (some ⟨q, 0, none⟩) 1 1)
    (hn : n = rs.length) (hown : OwnT w lo m A c rs) (hin : Own w lo hi 3 (some ⟨g, 0, none⟩) c1 (ints r)) (hk : k = r.length) (hmg : m ≤ g) (hhi : hi ≤ w.heap.size) (hmw : m ≤ w.heap.size)
    (hcell : w.cell? ⟨q, 0, none⟩ = some (.slice (some ⟨g, 0, none⟩) k c1)) (hl : n ≤ 1099511627776) (hlo : lo ≤ w.heap.size)
    (h : ∀ A' c' w', OwnT w' lo w'.heap.size A' c' (rs ++ [r]) → Only lo m w w' → (∀ g, g < w.heap.size → some g ≠ (Value.slice A n c).ownBlock → w'.heap[g]? = w.heap[g]?) → wpList Tryd.prog ops Q rest (a.put o.dst (.slice A' (n + 1) c')) w') : wpList Tryd.prog ops Q (o :: rest) a w := by
  subst hn hk
  obtain ⟨i0, hi0, hz0, hz1, hz2⟩ := info_parts ints_info
  obtain ⟨hs', e, hout, hinn⟩ := hown
  have hown' := hout.ownsRow
  rw [rowVs_length _ _ e] at hown'
  refine wpList_append_own w hgd s x _ ho lo 22 i0 _ 1 24 Tryd.underlying35 hi0 hz0 hz1 hz2 rfl (by decide) _ rs.length (rowVs hs' rs) hs hown' ⟨q, 0, none⟩ 1 1 [.slice (some ⟨g, 0, none⟩) r.length c1] hx rfl ?_ ?_ ?_ ?_ hlo ?_
  · intro j u hu
    match j, hu with
    | 0, hu =>
      simp at hu
      subst hu
      exact hcell
    | j + 1, hu => simp at hu
  · intro u hu
    simp at hu
    subst hu
    rfl
  · unfold maxLen; omega
  · omega
  · intro v' w' h1 h2 _
    obtain ⟨A', c', rfl, hlen, ho'⟩ := own_of_ownsRow h1
    have e' : (rowVs hs' rs ++ [Value.slice (some ⟨g, 0, none⟩) r.length c1]).length = rs.length + 1 := by rw [List.length_append, rowVs_length _ _ e]; rfl
    rw [e']
    have hkeep : ∀ b, b < w.heap.size → some b ≠ (Value.slice A rs.length c).ownBlock → w'.heap[b]? = w.heap[b]? := fun b h3 h4 => h2.block b h3 h4
    have hne : ∀ (b : Nat) (A1 : Option Addr) (c2 : Nat) (vs : List Value) (lo2 hi2 : Nat), Own w lo2 hi2 3 A1 c2 vs → A1 = some ⟨b, 0, none⟩ → some b ≠ (Value.slice A rs.length c).ownBlock := by
      intro b A1 c2 vs lo2 hi2 hA1 eb heq
      rcases own_apart hout hA1 with h5 | h5
      · subst h5; simp [Value.ownBlock] at heq
      · rcases own_block hout with h6 | ⟨g2, h6, _⟩
        · subst h6; simp [Value.ownBlock] at heq
        · subst h6
          simp only [Value.ownBlock, Option.some.injEq] at heq
          subst heq
          exact h5 eb.symm
    refine h A' c' w' ⟨hs' ++ [(some ⟨g, 0, none⟩, c1)], by simp [e], ?_, ?_, ?_⟩ (only_of_grown hout h2) hkeep
    · rw [rowVs_snoc _ _ _ _ e]
      exact ho'
    · intro i h3 h4
      by_cases hi2 : i < hs'.length
      · have hr : i < rs.length := by omega
        rw [List.getElem_append_left hi2, List.getElem_append_left hr]
        have := hinn.1 i hi2 hr
        refine Own.mono (Own.apart this fun b hb => hkeep b ?_ (hne b _ _ _ _ _ this hb)) (Nat.le_refl _) (Nat.le_trans hmw h2.size)
        rcases own_block this with h6 | ⟨g2, h6, _, h7⟩
        · rw [h6] at hb; cases hb
        · rw [h6] at hb
          simp only [Option.some.injEq, Addr.mk.injEq, and_true] at hb
          omega
      · have ei : i = hs'.length := by simp at h3; omega
        subst ei
        simp only [List.getElem_append_right (Nat.le_refl _), Nat.sub_self, List.getElem_cons_zero]
        rw [List.getElem_append_right (by omega)]
        simp only [e, Nat.sub_self, List.getElem_cons_zero]
        refine Own.mono (Own.apart hin fun b hb => hkeep b ?_ (hne b _ _ _ _ _ hin hb)) (Nat.le_refl _) (Nat.le_trans hhi h2.size)
        rcases own_block hin with h6 | ⟨g2, h6, _, h7⟩
        · cases h6
        · rw [h6] at hb
          simp only [Option.some.injEq, Addr.mk.injEq, and_true] at hb
          omega
    · intro i j h3 h4 hij
      have hfresh : ∀ i (hi2 : i < hs'.length), hs'[i].1 = none ∨ (hs'[i].1 ≠ some ⟨g, 0, none⟩) := by
        intro i hi2
        rcases own_block (hinn.1 i hi2 (by omega)) with h6 | ⟨g2, h6, _, h7⟩
        · exact .inl h6
        · right
          rw [h6]
          simp only [ne_eq, Option.some.injEq, Addr.mk.injEq, and_true]
          omega
      by_cases hi2 : i < hs'.length
      · by_cases hj2 : j < hs'.length
        · rw [List.getElem_append_left hi2, List.getElem_append_left hj2]
          exact hinn.2 i j hi2 hj2 hij
        · have ej : j = hs'.length := by simp at h4; omega
          subst ej
          rw [List.getElem_append_left hi2]
          simp only [List.getElem_append_right (Nat.le_refl _), Nat.sub_self, List.getElem_cons_zero]
          exact hfresh i hi2
      · have ei : i = hs'.length := by simp at h3; omega
        subst ei
        have hj2 : j < hs'.length := by simp at h4; omega
        rw [List.getElem_append_left hj2]
        simp only [List.getElem_append_right (Nat.le_refl _), Nat.sub_self, List.getElem_cons_zero]
        right
        intro ee
        rcases hfresh j hj2 with h6 | h6
        · rw [h6] at ee; cases ee
        · exact h6 ee.symm

/-- A row of ints of this run's own over an append to a table: it stays. -/
theorem Own.besideT {w w' : World} {lo hi lo2 hi2 c c2 n : Nat} {A A2 : Option Addr} {vs : List Value} {rs : List (List Int)} (h : Own w lo2 hi2 3 A2 c2 vs) (hT : OwnT w lo hi A c rs) (hhi : hi2 ≤ w.heap.size)
    (hk : ∀ g, g < w.heap.size → some g ≠ (Value.slice A n c).ownBlock → w'.heap[g]? = w.heap[g]?) : Own w' lo2 hi2 3 A2 c2 vs := by
  obtain ⟨hs, e, hout, _⟩ := hT
  refine h.apart fun b hb => hk b ?_ ?_
  · rcases own_block h with h6 | ⟨g2, h6, _, h7⟩
    · rw [h6] at hb; cases hb
    · rw [h6] at hb
      simp only [Option.some.injEq, Addr.mk.injEq, and_true] at hb
      omega
  · intro heq
    rcases own_apart hout h with h5 | h5
    · subst h5; simp [Value.ownBlock] at heq
    · rcases own_block hout with h6 | ⟨g2, h6, _⟩
      · subst h6; simp [Value.ownBlock] at heq
      · subst h6
        simp only [Value.ownBlock, Option.some.injEq] at heq
        subst heq
        exact h5 hb.symm
end
section
open Go.RowKit

theorem format_is {W : List Nat} (hT : IsT W) : rFormatTour (W.length : Int) (casts W) = textOf W := by
  unfold rFormatTour
  rw [tour_ok hT, toW_casts, if_pos rfl]
  rfl
theorem grown_only {w w' : World} {b : Nat} (h : w.grownBy w' (some b)) : Only b (b + 1) w w' :=
  ⟨h.os, h.tape, h.output, h.size, fun g hg hr => h.block g hg (by intro e; simp only [Option.some.injEq] at e; omega)⟩
/-- A slice of one tour, laid new. -/
theorem ownQ_one (w : World) (n : Nat) (A : Option Addr) (c : Nat) : OwnQ (w.alloc (.cells #[.int .i64 (n : Int), .slice A n c] 24)) w.heap.size 0 1 n [(A, c)] := by
  refine ⟨#[.int .i64 (n : Int), .slice A n c], heap_alloc_new w _, by simp, by simp, by unfold maxLen; omega, fun j x hj => ?_⟩
  match j, hj with
  | 0, hj => simp at hj; subst hj; exact ⟨rfl, rfl⟩
  | j + 1, hj => simp at hj
structure ISt (n b m gq oq cq : Nat) (hs : List (Option Addr × Nat)) (p : Nat) (Sm S : Known) (wr : World) : Prop where
  map : MapT wr b m n Sm
  q : OwnQ wr gq oq cq n hs
  len : hs.length + p = S.length
  rows : ∀ (j : Nat) (V : List Nat) (k : Nat) (h : Option Addr × Nat), S[p + j]? = some (V, k) → hs[j]? = some h → RowX wr b gq h.1 (ints (casts V))
  lt : b < gq
section
variable {n b m gq oq cq p : Nat} {hs : List (Option Addr × Nat)} {Sm S : Known} {w w' : World}
theorem ISt.below (h : ISt n b m gq oq cq hs p Sm S w) (hb : Below w.heap.size w w') : ISt n b m gq oq cq hs p Sm S w' :=
  ⟨h.map.below hb, h.q.below hb, h.len, fun j V k x h1 h2 => (h.rows j V k x h1 h2).below hb, h.lt⟩
theorem ISt.row (h : ISt n b m gq oq cq hs p Sm S w) {V : List Nat} {k : Nat} (hp : S[p]? = some (V, k)) : ∃ A c, 0 < hs.length ∧ w.cell? ⟨gq, oq, none⟩ = some (.int .i64 (n : Int)) ∧ w.cell? ⟨gq, oq + 1, none⟩ = some (.slice A n c) ∧ RowX w b gq A (ints (casts V)) := by
  have hlt : 0 < hs.length := by have := h.len; have := (List.getElem?_eq_some_iff.1 hp).1; omega
  obtain ⟨a, c⟩ := h.q.at_ hlt
  exact ⟨_, _, hlt, by simpa using a, by simpa using c, h.rows 0 V k _ (by simpa using hp) (List.getElem?_eq_getElem hlt)⟩
/-- A distance is written down. -/
theorem ISt.put {Sn : Known} {m' : Nat} (h : ISt n b m gq oq cq hs p Sm S w) (hm : MapT w' b m' n Sn) (hg : w.grownBy w' (some b)) : ISt n b m' gq oq cq hs p Sn S w' := by
  have hlt := h.lt
  have hql := h.q.lt
  refine ⟨hm, h.q.keep (hg.block gq hql (by intro e; simp at e; omega)), h.len, fun j V k x h1 h2 => (h.rows j V k x h1 h2).keep hg.size (fun g hgl ha _ => hg.block g hgl (by intro e; simp at e; omega)), hlt⟩
/-- A tour is put behind the others. -/
theorem ISt.push {gq' oq' cq' : Nat} {V : List Nat} {k : Nat} {A : Option Addr} {c : Nat} (h : ISt n b m gq oq cq hs p (S ++ [(V, k)]) S w)
    (hq : OwnQ w' gq' oq' cq' n (hs ++ [(A, c)])) (hg : gq' = gq ∨ w.heap.size ≤ gq') (ho : Only gq (gq + 1) w w') (hr : RowX w b gq A (ints (casts V))) :
    ISt n b m gq' oq' cq' (hs ++ [(A, c)]) p (S ++ [(V, k)]) (S ++ [(V, k)]) w' := by
  have hlt := h.lt
  have hql := h.q.lt
  have hK : ∀ {B : Option Addr} {vs : List Value}, RowX w b gq B vs → RowX w' b gq' B vs := fun hx => by
    obtain ⟨g, o, e, a1, a2, a3, a4⟩ := hx
    exact ⟨g, o, e, by have := ho.size; omega, a2, by rcases hg with rfl | hg <;> omega, fun i u hu => (World.cell?_of_block (ho.block g a1 (by omega))).trans (a4 i u hu)⟩
  refine ⟨h.map.keep (ho.block b (by omega) (by omega)), hq, by have := h.len; simp; omega, fun j V' k' x g1 g2 => ?_, by rcases hg with rfl | hg <;> omega⟩
  have hl := h.len
  by_cases hj : j < hs.length
  · rw [List.getElem?_append_left (by omega)] at g1
    rw [List.getElem?_append_left hj] at g2
    exact hK (h.rows j V' k' x g1 g2)
  · rw [List.getElem?_append_right (by omega)] at g1
    rw [List.getElem?_append_right (by omega)] at g2
    have hj0 : j - hs.length = 0 := by
      have := (List.getElem?_eq_some_iff.1 g2).1
      simpa using this
    rw [hj0] at g2
    rw [show p + j - S.length = 0 by omega] at g1
    simp at g1 g2
    obtain ⟨rfl, rfl⟩ := g1
    subst g2
    exact hK hr
/-- The queue's head is gone. -/
theorem ISt.tail {x : Option Addr × Nat} (h : ISt n b m gq oq (cq + 1) (x :: hs) p Sm S w) : ISt n b m gq (oq + 2) cq hs (p + 1) Sm S w :=
  ⟨h.map, h.q.tail, by have := h.len; simp at this; omega, fun j V k y h1 h2 => h.rows (j + 1) V k y (by rw [← h1]; congr 1; omega) (by simpa using h2), h.lt⟩
theorem ISt.none {x : Option Addr × Nat} (h : ISt n b m gq oq 1 [x] p Sm S w) : ISt n b m gq oq 0 [] (p + 1) Sm S w :=
  ⟨h.map, h.q.nilAt, by have := h.len; simp at this; simp; omega, fun j V k y h1 h2 => by simp at h2, h.lt⟩
end
end
end Go.Proofs.YtaocjjocncoahaaDoor
