/- TriangleWay, plain: the search from a tour over its turned triangles. l04Distances, plain: the row of distances; rows apart from some blocks. -/
import Derived.Test.YtaocjjocncoahaaDoorRyser
import Derived.Test.YtaocjjocncoahaaDoorQueue
import Derived.Test.YtaocjjocncoahaaDoorBut3
namespace Go.Proofs.YtaocjjocncoahaaDoor
set_option linter.unusedVariables false
set_option linter.unusedSimpArgs false
section
open Go.RowKit

/-- What is known: tours, and how many reversals lead to them. -/
abbrev Known := List (List Nat × Nat)
def addK (S : Known) (V : List Nat) (k : Nat) : Known := if (S.lookup V).isSome then S else S ++ [(V, k)]
def addAll (S : Known) (k : Nat) (Vs : List (List Nat)) : Known := Vs.foldl (fun S V => addK S V k) S
def roundK (p : Nat) (S : Known) : Known := match S[p]? with
  | none => S
  | some e => addAll S (e.2 + 1) ((triRows e.1).map (turnL e.1))
def bfs (u : List Nat) : Nat → Known
  | 0 => [(u, 0)]
  | p + 1 => roundK p (bfs u p)
/-- What is known when i triangles of the p-th have been turned. -/
def innK (S : Known) (W : List Nat) (k i : Nat) : Known := addAll S (k + 1) (((triRows W).take i).map (turnL W))
theorem innK_zero (S : Known) (W : List Nat) (k : Nat) : innK S W k 0 = S := rfl
theorem innK_succ (S : Known) (W : List Nat) (k i : Nat) (hi : i < (triRows W).length) : innK S W k (i + 1) = addK (innK S W k i) (turnL W (triRows W)[i]) (k + 1) := by
  unfold innK addAll
  rw [List.take_succ_eq_append_getElem hi, List.map_append, List.foldl_append]
  rfl
theorem innK_end (S : Known) (W : List Nat) (k p : Nat) (h : S[p]? = some (W, k)) : innK S W k (triRows W).length = roundK p S := by
  unfold innK roundK
  rw [h, List.take_length]
structure KI (n : Nat) (u : List Nat) (S : Known) : Prop where
  nd : (S.map Prod.fst).Nodup
  val : ∀ e, e ∈ S → IsT e.1 ∧ e.1.length = n
  zero : S[0]? = some (u, 0)
  par : ∀ (i : Nat) (V : List Nat) (m : Nat), 0 < i → S[i]? = some (V, m) → ∃ (j : Nat) (W : List Nat) (k : Nat), j < i ∧ S[j]? = some (W, k) ∧ m = k + 1 ∧ ∃ ts, ts ∈ triRows W ∧ V = turnL W ts
theorem lookup_none {S : Known} {V : List Nat} (h : (S.lookup V).isSome = false) : V ∉ S.map Prod.fst := by
  induction S with
  | nil => simp
  | cons e S ih =>
    obtain ⟨A, k⟩ := e
    rw [List.lookup_cons] at h
    by_cases e : V = A
    · subst e; simp at h
    · have hb : (V == A) = false := by simp [e]
      rw [hb] at h
      simp only [List.map_cons, List.mem_cons, not_or]
      exact ⟨e, ih h⟩
theorem lookup_at {S : Known} (hn : (S.map Prod.fst).Nodup) {V : List Nat} {k i : Nat} (h : S[i]? = some (V, k)) : S.lookup V = some k := by
  induction S generalizing i with
  | nil => simp at h
  | cons e S ih =>
    obtain ⟨A, m⟩ := e
    rw [List.map_cons, List.nodup_cons] at hn
    rw [List.lookup_cons]
    cases i with
    | zero => simp at h; obtain ⟨rfl, rfl⟩ := h; simp
    | succ i =>
      have h1 : S[i]? = some (V, k) := by simpa using h
      have hm : V ∈ S.map Prod.fst := List.mem_map.2 ⟨(V, k), List.mem_of_getElem? h1, rfl⟩
      have hb : (V == A) = false := by simp; intro e; subst e; exact hn.1 hm
      rw [hb]
      exact ih hn.2 h1
theorem lookup_idx {S : Known} {V : List Nat} {k : Nat} (h : S.lookup V = some k) : ∃ i : Nat, S[i]? = some (V, k) := by
  induction S with
  | nil => simp at h
  | cons e S ih =>
    obtain ⟨A, m⟩ := e
    rw [List.lookup_cons] at h
    by_cases e : V = A
    · subst e; simp at h; subst h; exact ⟨0, rfl⟩
    · have hb : (V == A) = false := by simp [e]
      rw [hb] at h
      obtain ⟨i, hi⟩ := ih h
      exact ⟨i + 1, by simpa using hi⟩
theorem lookup_app (S : Known) (V X : List Nat) (k : Nat) : (S ++ [(V, k)]).lookup X = (S.lookup X).or (if X == V then some k else none) := by
  rw [List.lookup_append]
  congr 1
  rw [List.lookup_cons]
  cases X == V <;> rfl
theorem addK_old {S : Known} {V : List Nat} {k : Nat} (h : (S.lookup V).isSome = true) : addK S V k = S := by unfold addK; rw [if_pos h]
theorem addK_new {S : Known} {V : List Nat} {k : Nat} (h : (S.lookup V).isSome = false) : addK S V k = S ++ [(V, k)] := by unfold addK; rw [if_neg (by rw [h]; simp)]
theorem addK_some (S : Known) (V X : List Nat) (k : Nat) : ((addK S V k).lookup X).isSome = ((S.lookup X).isSome || X == V) := by
  cases h : (S.lookup V).isSome with
  | true =>
    rw [addK_old h]
    by_cases e : X = V
    · subst e; simp [h]
    · have : (X == V) = false := by simp [e]
      rw [this, Bool.or_false]
  | false =>
    rw [addK_new h, lookup_app]
    cases S.lookup X <;> cases X == V <;> rfl
theorem addK_prefix (S : Known) (V : List Nat) (k i : Nat) (e : List Nat × Nat) (h : S[i]? = some e) : (addK S V k)[i]? = some e := by
  unfold addK
  split
  · exact h
  · rw [List.getElem?_append_left (List.getElem?_eq_some_iff.1 h).1]; exact h
theorem KI.add {n : Nat} {u : List Nat} {S : Known} (h : KI n u S) {p : Nat} {W : List Nat} {k : Nat} (hp : S[p]? = some (W, k)) {ts : List Int} (hts : ts ∈ triRows W) : KI n u (addK S (turnL W ts) (k + 1)) := by
  cases hl : (S.lookup (turnL W ts)).isSome with
  | true => rw [addK_old hl]; exact h
  | false =>
    have hv := h.val _ (List.mem_of_getElem? hp)
    obtain ⟨hO, hL, _⟩ := turnL_ok hv.1 hts
    have hlt := (List.getElem?_eq_some_iff.1 hp).1
    rw [addK_new hl]
    refine ⟨?_, ?_, ?_, ?_⟩
    · rw [List.map_append, List.nodup_append]
      refine ⟨h.nd, by simp, ?_⟩
      intro a ha b hb
      simp at hb
      subst hb
      intro e
      subst e
      exact lookup_none hl ha
    · intro e he
      rcases List.mem_append.1 he with he | he
      · exact h.val e he
      · simp at he; subst he; exact ⟨hO, hL.trans hv.2⟩
    · rw [List.getElem?_append_left (by omega)]; exact h.zero
    · intro i V m hi0 hi
      by_cases hlt2 : i < S.length
      · rw [List.getElem?_append_left hlt2] at hi
        obtain ⟨j, W', k', h1, h2, h3⟩ := h.par i V m hi0 hi
        exact ⟨j, W', k', h1, by rw [List.getElem?_append_left (by omega)]; exact h2, h3⟩
      · rw [List.getElem?_append_right (by omega)] at hi
        have hi1 : i - S.length = 0 := by
          have := (List.getElem?_eq_some_iff.1 hi).1
          simpa using this
        rw [hi1] at hi
        simp at hi
        obtain ⟨rfl, rfl⟩ := hi
        exact ⟨p, W, k, by omega, by rw [List.getElem?_append_left hlt]; exact hp, rfl, ts, hts, rfl⟩
theorem KI.inn {n : Nat} {u : List Nat} {S : Known} (h : KI n u S) {p : Nat} {W : List Nat} {k : Nat} (hp : S[p]? = some (W, k)) : ∀ i, i ≤ (triRows W).length → KI n u (innK S W k i) ∧ (innK S W k i)[p]? = some (W, k) ∧ (∀ X, (S.lookup X).isSome = true → ((innK S W k i).lookup X).isSome = true) ∧ (∀ (j : Nat) (e : List Nat × Nat), S[j]? = some e → (innK S W k i)[j]? = some e) ∧ ∀ j, j < i → ∀ hj : j < (triRows W).length, ((innK S W k i).lookup (turnL W (triRows W)[j])).isSome = true
  | 0, _ => ⟨h, hp, fun _ h => h, fun _ _ h => h, fun j hj => absurd hj (Nat.not_lt_zero _)⟩
  | i + 1, hi => by
    obtain ⟨h1, h2, h3, h4, h5⟩ := KI.inn h hp i (by omega)
    rw [innK_succ S W k i (by omega)]
    refine ⟨h1.add h2 (List.getElem_mem _), addK_prefix _ _ _ _ _ h2, fun X hX => by rw [addK_some, h3 X hX]; rfl, fun j e he => addK_prefix _ _ _ _ _ (h4 j e he), fun j hj hjl => ?_⟩
    rw [addK_some]
    by_cases e : j = i
    · subst e; simp
    · rw [h5 j (by omega) hjl]; rfl
/-- The first p have been dealt with. -/
def Cld (S : Known) (p : Nat) : Prop := ∀ (i : Nat) (W : List Nat) (k : Nat), i < p → S[i]? = some (W, k) → ∀ ts, ts ∈ triRows W → (S.lookup (turnL W ts)).isSome = true
theorem bfs_ok {n : Nat} {u : List Nat} (hT : IsT u) (hl : u.length = n) : ∀ p, KI n u (bfs u p) ∧ Cld (bfs u p) p
  | 0 => ⟨⟨by simp [bfs], by simp [bfs]; exact ⟨hT, hl⟩, rfl, fun i V m hi h => by
      rw [bfs] at h
      have := (List.getElem?_eq_some_iff.1 h).1
      simp at this; omega⟩, fun i W k hi => absurd hi (Nat.not_lt_zero _)⟩
  | p + 1 => by
    obtain ⟨h1, h2⟩ := bfs_ok hT hl p
    rw [bfs]
    cases hp : (bfs u p)[p]? with
    | none =>
      have e : roundK p (bfs u p) = bfs u p := by unfold roundK; rw [hp]
      rw [e]
      refine ⟨h1, fun i W k hi hS ts hts => ?_⟩
      by_cases e2 : i = p
      · subst e2; rw [hp] at hS; cases hS
      · exact h2 i W k (by omega) hS ts hts
    | some e =>
      obtain ⟨W, k⟩ := e
      obtain ⟨g1, g2, g3, g4, g5⟩ := h1.inn hp _ (Nat.le_refl _)
      rw [innK_end _ W k p hp] at g1 g2 g3 g4 g5
      refine ⟨g1, fun i W' k' hi hS ts hts => ?_⟩
      by_cases e2 : i = p
      · subst e2
        rw [g2] at hS
        simp at hS
        obtain ⟨rfl, rfl⟩ := hS
        obtain ⟨j, hj, rfl⟩ := List.mem_iff_getElem.1 hts
        exact g5 j hj hj
      · have hlt : i < (bfs u p).length := by have := (List.getElem?_eq_some_iff.1 hp).1; omega
        have hS2 := g4 i _ (List.getElem?_eq_getElem hlt)
        rw [hS] at hS2
        have hS3 : (bfs u p)[i]? = some (W', k') := by rw [List.getElem?_eq_getElem hlt]; exact hS2.symm
        exact g3 _ (h2 i W' k' (by omega) hS3 ts hts)
theorem nodup_len : ∀ (N : Nat) (l : List Nat), l.Nodup → (∀ x, x ∈ l → x < N) → l.length ≤ N
  | 0, l, _, h => by
    cases l with
    | nil => simp
    | cons x l => exact absurd (h x (by simp)) (Nat.not_lt_zero _)
  | N + 1, l, hn, h => by
    have h1 := nodup_len N (l.filter fun x => decide (x ≠ N)) (List.Pairwise.sublist List.filter_sublist hn) (fun x hx => by
      have h2 := List.mem_filter.1 hx
      have h3 := h x h2.1
      have h4 : x ≠ N := by simpa using h2.2
      omega)
    have h2 : l.length ≤ (l.filter fun x => decide (x ≠ N)).length + 1 := by
      clear h1 h
      induction l with
      | nil => simp
      | cons x l ih =>
        have hc := List.nodup_cons.1 hn
        by_cases e : x = N
        · subst e
          have hf : (l.filter fun y => decide (y ≠ x)) = l := List.filter_eq_self.2 fun y hy => by
            have : y ≠ x := fun e => hc.1 (e ▸ hy)
            simpa using this
          rw [List.filter_cons, if_neg (by simp), hf]
          simp
        · have := ih hc.2
          rw [List.filter_cons, if_pos (by simpa using e)]
          simp at this ⊢; omega
    omega
theorem KI.len {n : Nat} {u : List Nat} {S : Known} (h : KI n u S) (h8 : n ≤ 8) : S.length ≤ 2 ^ off n n := by
  have h1 : (S.map fun e => numW e.1).length ≤ 2 ^ off n n := by
    refine nodup_len _ _ ?_ ?_
    · rw [List.Nodup, List.pairwise_map]
      have h2 := h.nd
      rw [List.Nodup, List.pairwise_map] at h2
      refine List.Pairwise.imp_of_mem ?_ h2
      intro a b ha hb hne e
      have va := h.val a ha
      have vb := h.val b hb
      exact hne (num_inj va.1 vb.1 (va.2.trans vb.2.symm) e)
    · intro x hx
      obtain ⟨e, he, rfl⟩ := List.mem_map.1 hx
      have := numW_lt e.1
      rw [(h.val e he).2] at this
      exact this
  rwa [List.length_map] at h1
theorem KI.small {n : Nat} {u : List Nat} {S : Known} (h : KI n u S) : ∀ (i : Nat) (V : List Nat) (m : Nat), S[i]? = some (V, m) → m ≤ i := by
  intro i
  induction i using Nat.strongRecOn with
  | _ i ih =>
    intro V m hi
    by_cases h0 : i = 0
    · subst h0; rw [h.zero] at hi; simp at hi; omega
    · obtain ⟨j, W, k, h1, h2, h3, _⟩ := h.par i V m (by omega) hi
      have := ih j h1 W k h2
      omega
/-- The search stands still when all have been dealt with. -/
theorem bfs_still (u : List Nat) (p : Nat) (h : (bfs u p).length ≤ p) : ∀ d, bfs u (p + d) = bfs u p
  | 0 => rfl
  | d + 1 => by
    have ih := bfs_still u p h d
    rw [show p + (d + 1) = (p + d) + 1 by omega, bfs, ih]
    unfold roundK
    rw [List.getElem?_eq_none (by omega)]
def FS (u : List Nat) : Known := bfs u 1024
theorem FS_is {n : Nat} {u : List Nat} (hT : IsT u) (hl : u.length = n) (h5 : n ≤ 5) (p : Nat) (h : (bfs u p).length ≤ p) (hp : p ≤ (bfs u p).length) : FS u = bfs u p := by
  have h1 := (bfs_ok hT hl p).1.len (by omega)
  have h2 : 2 ^ off n n ≤ 1024 := by
    have : ∀ n, n < 6 → 2 ^ off n n ≤ 1024 := by decide +kernel
    exact this n (by omega)
  unfold FS
  rw [show (1024 : Nat) = p + (1024 - p) by omega]
  exact bfs_still u p h _
theorem FS_ok {n : Nat} {u : List Nat} (hT : IsT u) (hl : u.length = n) (h5 : n ≤ 5) : KI n u (FS u) ∧ ∀ V, ((FS u).lookup V).isSome = true → ∀ ts, ts ∈ triRows V → ((FS u).lookup (turnL V ts)).isSome = true := by
  obtain ⟨h1, h2⟩ := bfs_ok (n := n) hT hl 1024
  refine ⟨h1, fun V hV ts hts => ?_⟩
  obtain ⟨k, hk⟩ := Option.isSome_iff_exists.1 hV
  obtain ⟨i, hi⟩ := lookup_idx hk
  have h3 := h1.len (by omega)
  have h4 : 2 ^ off n n ≤ 1024 := by
    have : ∀ n, n < 6 → 2 ^ off n n ≤ 1024 := by decide +kernel
    exact this n (by omega)
  have hi2 : (bfs u 1024)[i]? = some (V, k) := hi
  exact h2 i V k (by have := (List.getElem?_eq_some_iff.1 hi2).1; omega) hi2 ts hts
/-- Whoever has the scores of u is known. -/
theorem FS_all {n : Nat} {u t : List Nat} (hT : IsT u) (hl : u.length = n) (h5 : n ≤ 5) (ht : IsT t) (htl : t.length = n) (hs : scL t = scL u) : ∃ k, (FS u).lookup t = some k := by
  obtain ⟨h1, h2⟩ := FS_ok hT hl h5
  refine Option.isSome_iff_exists.1 (ryser (P := fun V => ((FS u).lookup V).isSome = true) h5 (fun V hV => ?_) h2 (u := u) ?_ ht htl hs)
  · obtain ⟨k, hk⟩ := Option.isSome_iff_exists.1 hV
    obtain ⟨i, hi⟩ := lookup_idx hk
    exact h1.val _ (List.mem_of_getElem? hi)
  · rw [lookup_at h1.nd h1.zero]; rfl
/-- A step down. -/
theorem FS_down {n : Nat} {u V : List Nat} {k : Nat} (hT : IsT u) (hl : u.length = n) (h5 : n ≤ 5) (h : (FS u).lookup V = some (k + 1)) : ∃ ts, ts ∈ triRows V ∧ (FS u).lookup (turnL V ts) = some k := by
  obtain ⟨h1, _⟩ := FS_ok hT hl h5
  obtain ⟨i, hi⟩ := lookup_idx h
  have h0 : 0 < i := by
    rcases Nat.eq_zero_or_pos i with e | e
    · subst e; rw [h1.zero] at hi; simp at hi
    · exact e
  obtain ⟨j, W, m, g1, g2, g3, ts, g4, rfl⟩ := h1.par i V (k + 1) h0 hi
  obtain ⟨_, _, us, hu, hb⟩ := turnL_ok (h1.val _ (List.mem_of_getElem? g2)).1 g4
  refine ⟨us, hu, ?_⟩
  rw [hb, lookup_at h1.nd g2]
  exact congrArg some (by omega)
/-- The way down. -/
def wayL (S : Known) : List Nat → Nat → List (List Int)
  | _, 0 => []
  | W, k + 1 => match (triRows W).find? fun ts => S.lookup (turnL W ts) == some k with
    | some ts => ts :: wayL S (turnL W ts) k
    | none => []
end
section
open Go.RowKit

def dI (S : Known) (V : List Nat) : Int := match S.lookup V with
  | some k => (k : Int)
  | none => -1
def outV (n : Nat) (S : Known) : List Int := (List.range (2 ^ off n n)).map fun c => dI S (gameV n fun k => c.testBit k)
theorem outV_length (n : Nat) (S : Known) : (outV n S).length = 2 ^ off n n := by simp [outV]
theorem outV_nil (n : Nat) : outV n [] = List.replicate (2 ^ off n n) (-1) := by
  unfold outV
  rw [List.eq_replicate_iff]
  refine ⟨by simp, fun x hx => ?_⟩
  obtain ⟨c, _, rfl⟩ := List.mem_map.1 hx
  rfl
theorem outV_at (n : Nat) (S : Known) (V : List Nat) (hT : IsT V) (hl : V.length = n) (h : numW V < (outV n S).length) : (outV n S)[numW V] = dI S V := by
  subst hl
  simp only [outV, List.getElem_map, List.getElem_range]
  rw [num_back V hT]
theorem outV_lt (n : Nat) (S : Known) (V : List Nat) (hl : V.length = n) : numW V < (outV n S).length := by
  subst hl
  rw [outV_length]
  exact numW_lt V
theorem dI_app (S : Known) (V X : List Nat) (k : Nat) (h : (S.lookup V).isSome = false) : dI (S ++ [(V, k)]) X = if X = V then (k : Int) else dI S X := by
  unfold dI
  rw [lookup_app]
  by_cases e : X = V
  · subst e
    have h2 : S.lookup X = none := by simpa using h
    simp [h2]
  · have : (X == V) = false := by simp [e]
    rw [this]
    simp [e]
theorem outV_set (n : Nat) (S : Known) (V : List Nat) (k : Nat) (hT : IsT V) (hl : V.length = n) (h8 : n ≤ 8) (h : (S.lookup V).isSome = false) : (outV n S).set (numW V) (k : Int) = outV n (S ++ [(V, k)]) := by
  apply List.ext_getElem
  · rw [List.length_set, outV_length, outV_length]
  · intro c h1 h2
    rw [outV_length] at h2
    rw [List.getElem_set]
    simp only [outV, List.getElem_map, List.getElem_range]
    rw [dI_app _ _ _ _ h]
    by_cases e : numW V = c
    · subst e
      subst hl
      rw [if_pos rfl, num_back V hT, if_pos rfl]
    · rw [if_neg e, if_neg (fun e2 => e (by rw [← e2]; exact num_game n c h8 h2))]
theorem dI_neg (S : Known) (V : List Nat) : decide (dI S V < 0) = !(S.lookup V).isSome := by
  unfold dI
  cases S.lookup V with
  | none => rfl
  | some k => simp
/-- The row stands in a block that is neither a nor b. -/
def RowX (w : World) (a b : Nat) (A : Option Addr) (vs : List Value) : Prop := ∃ g o, A = some ⟨g, o, none⟩ ∧ g < w.heap.size ∧ g ≠ a ∧ g ≠ b ∧ ∀ (i : Nat) (u : Value), vs[i]? = some u → w.cell? ⟨g, o + i, none⟩ = some u
theorem RowX.row {w : World} {a b : Nat} {A : Option Addr} {vs : List Value} (h : RowX w a b A vs) : Row w w.heap.size A vs := by
  obtain ⟨g, o, e, hg, _, _, hc⟩ := h
  exact fun _ => ⟨g, o, e, hg, hc⟩
theorem RowX.keep {w w' : World} {a b : Nat} {A : Option Addr} {vs : List Value} (h : RowX w a b A vs) (hs : w.heap.size ≤ w'.heap.size) (hk : ∀ g, g < w.heap.size → g ≠ a → g ≠ b → w'.heap[g]? = w.heap[g]?) : RowX w' a b A vs := by
  obtain ⟨g, o, e, hg, ha, hb, hc⟩ := h
  exact ⟨g, o, e, by omega, ha, hb, fun i u hu => (World.cell?_of_block (hk g hg ha hb)).trans (hc i u hu)⟩
theorem RowX.below {w w' : World} {a b : Nat} {A : Option Addr} {vs : List Value} (h : RowX w a b A vs) (hb : Below w.heap.size w w') : RowX w' a b A vs := h.keep hb.size fun g hg _ _ => hb.block g hg
theorem RowX.fresh {w : World} {a b b' : Nat} {A : Option Addr} {vs : List Value} (h : RowX w a b A vs) (hb : b' = b ∨ w.heap.size ≤ b') : RowX w a b' A vs := by
  obtain ⟨g, o, e, hg, ha, hb2, hc⟩ := h
  exact ⟨g, o, e, hg, ha, by rcases hb with rfl | hb <;> omega, hc⟩
theorem rowX_of {w : World} {a b : Nat} {A : Option Addr} {vs : List Value} {B : Nat} (h : Row w B A vs) (h0 : 0 < vs.length) (hB : B ≤ w.heap.size) (ha : B ≤ a) (hb : B ≤ b) : RowX w a b A vs := by
  obtain ⟨g, o, e, hg, hc⟩ := h h0
  exact ⟨g, o, e, by omega, by omega, by omega, hc⟩
theorem rowX_own {w : World} {a b lo hi c : Nat} {t : TypeId} {A : Option Addr} {vs : List Value} (h : Own w lo hi t A c vs) (h0 : 0 < vs.length) (ha : a < lo) (hb : b < lo) : RowX w a b A vs := by
  rcases h with ⟨_, rfl, _⟩ | ⟨g, cur, rfl, h1, h2, h3, h4, h5, h6, h7⟩
  · simp at h0
  · refine ⟨g, 0, rfl, (Array.getElem?_eq_some_iff.1 h3).1, by omega, by omega, fun i u hu => ?_⟩
    have hi : i < vs.length := (List.getElem?_eq_some_iff.1 hu).1
    rw [← h7, List.getElem?_take_of_lt hi, Array.getElem?_toList] at hu
    simp [World.cell?, h3, hu]
/-- What the reference's search holds: the distances to those in So, the tours of S. -/
structure DSt (n go dd gq oq cq : Nat) (hs : List (Option Addr × Nat)) (So S : Known) (wr : World) : Prop where
  out : Own wr go (go + 1) 3 (some ⟨go, 0, none⟩) dd (ints (outV n So))
  q : OwnQ wr gq oq cq n hs
  len : hs.length = S.length
  rows : ∀ (j : Nat) (V : List Nat) (k : Nat) (h : Option Addr × Nat), S[j]? = some (V, k) → hs[j]? = some h → RowX wr go gq h.1 (ints (casts V))
  lt : go < gq
theorem DSt.below {n go dd gq oq cq : Nat} {hs : List (Option Addr × Nat)} {So S : Known} {w w' : World} (h : DSt n go dd gq oq cq hs So S w) (hb : Below w.heap.size w w') : DSt n go dd gq oq cq hs So S w' :=
  ⟨h.out.below hb (by have := h.lt; have := h.q.lt; omega), h.q.below hb, h.len, fun j V k x h1 h2 => (h.rows j V k x h1 h2).below hb, h.lt⟩
theorem DSt.row {n go dd gq oq cq : Nat} {hs : List (Option Addr × Nat)} {So S : Known} {w : World} (h : DSt n go dd gq oq cq hs So S w) {p : Nat} {V : List Nat} {k : Nat} (hp : S[p]? = some (V, k)) : ∃ A c, p < hs.length ∧ w.cell? ⟨gq, oq + p * 2, none⟩ = some (.int .i64 (n : Int)) ∧ w.cell? ⟨gq, oq + p * 2 + 1, none⟩ = some (.slice A n c) ∧ RowX w go gq A (ints (casts V)) := by
  have hl := h.len
  have hlt : p < hs.length := by rw [hl]; exact (List.getElem?_eq_some_iff.1 hp).1
  obtain ⟨a, b⟩ := h.q.at_ hlt
  exact ⟨_, _, hlt, a, b, h.rows p V k _ hp (List.getElem?_eq_getElem hlt)⟩
/-- A distance is written down. -/
theorem DSt.put {n go dd gq oq cq : Nat} {hs : List (Option Addr × Nat)} {S : Known} {w : World} (h : DSt n go dd gq oq cq hs S S w) {V : List Nat} {k : Nat} (hT : IsT V) (hl : V.length = n) (h8 : n ≤ 8) (hk : (S.lookup V).isSome = false) :
    DSt n go dd gq oq cq hs (S ++ [(V, k)]) S (w.setCell ⟨go, numW V, none⟩ (.int .i64 (k : Int))) := by
  have h1 := h.out.set (numW V) (.int .i64 (k : Int))
  have e : (ints (outV n S)).set (numW V) (.int .i64 (k : Int)) = ints (outV n (S ++ [(V, k)])) := by
    rw [← outV_set n S V k hT hl h8 hk]
    unfold ints
    rw [List.map_set]
  rw [e] at h1
  refine ⟨h1, h.q.setCell (p := ⟨go, numW V, none⟩) (by have := h.lt; show go ≠ gq; omega) _, h.len, fun j V' k' x g1 g2 => (h.rows j V' k' x g1 g2).keep (by simp) (fun g _ ha _ => Below.heap_setCell w _ _ g ha), h.lt⟩
/-- A tour is put behind the others. -/
theorem DSt.push {n go dd gq oq cq gq' oq' cq' : Nat} {hs : List (Option Addr × Nat)} {S : Known} {w w' : World} {V : List Nat} {k : Nat} {A : Option Addr} {c : Nat} (h : DSt n go dd gq oq cq hs (S ++ [(V, k)]) S w)
    (hq : OwnQ w' gq' oq' cq' n (hs ++ [(A, c)])) (hg : gq' = gq ∨ w.heap.size ≤ gq') (ho : Only gq (gq + 1) w w') (hr : RowX w go gq A (ints (casts V))) :
    DSt n go dd gq' oq' cq' (hs ++ [(A, c)]) (S ++ [(V, k)]) (S ++ [(V, k)]) w' := by
  have hlt := h.lt
  have hql := h.q.lt
  have hK : ∀ {B : Option Addr} {vs : List Value}, RowX w go gq B vs → RowX w' go gq' B vs := fun hx => by
    obtain ⟨g, o, e, a1, a2, a3, a4⟩ := hx
    exact ⟨g, o, e, by have := ho.size; omega, a2, by rcases hg with rfl | hg <;> omega, fun i u hu => (World.cell?_of_block (ho.block g a1 (by omega))).trans (a4 i u hu)⟩
  refine ⟨h.out.only ho (by omega) (by left; omega), hq, by simp [h.len], fun j V' k' x g1 g2 => ?_, by rcases hg with rfl | hg <;> omega⟩
  by_cases hj : j < S.length
  · rw [List.getElem?_append_left hj] at g1
    rw [List.getElem?_append_left (by rw [h.len]; exact hj)] at g2
    exact hK (h.rows j V' k' x g1 g2)
  · rw [List.getElem?_append_right (by omega)] at g1
    rw [List.getElem?_append_right (by rw [h.len]; omega)] at g2
    have hj0 : j - S.length = 0 := by
      have := (List.getElem?_eq_some_iff.1 g1).1
      simpa using this
    rw [hj0] at g1
    rw [h.len, hj0] at g2
    simp at g1 g2
    obtain ⟨rfl, rfl⟩ := g1
    subst g2
    exact hK hr
theorem But3.onlyQ {a b : Nat} {w w' w'' : World} {g : Nat} (h : But3 a b b w w') (ho : Only g (g + 1) w' w'') (hg : g = b ∨ w.heap.size ≤ g) : But3 a b b w w'' :=
  ⟨ho.os.trans h.os, ho.tape.trans h.tape, ho.output.trans h.output, Nat.le_trans h.size ho.size, fun k hk h1 h2 h3 => (ho.block k (Nat.lt_of_lt_of_le hk h.size) (by omega)).trans (h.block k hk h1 h2 h3)⟩
end
end Go.Proofs.YtaocjjocncoahaaDoor
