/- slices.SortFunc at no more than 12, of a slice that has been cut off in front. -/
import Derived.Test.YtaocjjocncoahaaSortFO
import Derived.Test.YtaocjjocncoahaaSortO
namespace Go.Proofs.Ytaocjjocncoahaa
open Go.RowKit

def SortedO (w : World) (lo hi ga off : Nat) (κ : Nat → Int) (os : List Nat) (e : Ending) (w' : World) : Prop :=
  e = .returned (.tuple #[]) ∧ ∃ L : List Nat, L.Perm os ∧ AscTo κ L os.length ∧ OwnO w' lo hi ga off L ∧ Only lo hi w w'
theorem pdqCmpO_any (g : Nat) (lb : Array Value) (eg : ∀ args w, (callFunc g args).run Try.prog w = .ok (.enter g args) w) (f : Nat → Nat → Int) (κ : Nat → Int) (n ga off c lo hi : Nat) (lim : Int) (os : List Nat) (w : World)
    (hp : PredCmpO g lb f lo hi n w) (hk : ∀ x y, x < n → y < n → (f x y < 0 ↔ κ x < κ y)) (hos : ∀ x ∈ os, x < n) (h : OwnO w lo hi ga off os) (hhi : hi ≤ w.heap.size) (h1 : 1 ≤ os.length) (h8 : os.length ≤ 12) :
    Calls Try.prog 72 #[.slice (some ⟨ga, off, none⟩) os.length c, .int .i64 0, .int .i64 (os.length : Int), .int .i64 lim, .func (.func g) #[] lb] w (SortedO w lo hi ga off κ os) := by
  have HX := Lib.hid (insSortO_any g lb eg f κ n ga off c lo hi os w hp hk hos h hhi h1 h8)
  clear h hp hk hos
  have hle : (os.length : Int) ≤ 12 := by omega
  go_enter Try.func72, Try.ntmps72
  go_wp2
  go_loop [1, 2, 3, 10, 11] (fun a b l p q => a = .int .i64 0 ∧ b = .int .i64 (os.length : Int) ∧ l = .int .i64 lim ∧ p = .bool true ∧ q = .bool true) (fun _ _ _ _ _ => 0)
  case atStart => exact ⟨rfl, rfl, rfl, rfl, rfl⟩
  case round =>
    obtain ⟨rfl, rfl, rfl, rfl, rfl⟩ := hrel
    go_wp2_with fail
    refine HX.out.mono ?_
    rintro e w1 ⟨rfl, L, h1, h2, h3, h4⟩
    have HR := Lib.hid (And.intro h1 (And.intro h2 (And.intro h3 h4)))
    clear h1 h2 h3 h4
    go_wp2
    go_end0
    exact ⟨rfl, L, HR.out⟩
theorem sortFuncO_any (g : Nat) (lb : Array Value) (eg : ∀ args w, (callFunc g args).run Try.prog w = .ok (.enter g args) w) (f : Nat → Nat → Int) (κ : Nat → Int) (n ga off c lo hi : Nat) (os : List Nat) (w : World)
    (hp : PredCmpO g lb f lo hi n w) (hk : ∀ x y, x < n → y < n → (f x y < 0 ↔ κ x < κ y)) (hos : ∀ x ∈ os, x < n) (h : OwnO w lo hi ga off os) (hhi : hi ≤ w.heap.size) (h1 : 1 ≤ os.length) (h8 : os.length ≤ 12) :
    Calls Try.prog 46 #[.slice (some ⟨ga, off, none⟩) os.length c, .func (.func g) #[] lb] w (SortedO w lo hi ga off κ os) := by
  have HX := Lib.hid (fun lim => pdqCmpO_any g lb eg f κ n ga off c lo hi lim os w hp hk hos h hhi h1 h8)
  clear h hp hk hos
  go_enter Try.func46, Try.ntmps46
  go_wp2_with fail
  refine (len_any (os.length : Int) _ (by omega) (by omega)).mono ?_
  rintro e w1 ⟨rfl, rfl⟩
  go_wp2_with fail
  refine (HX.out _).mono ?_
  rintro e w1 ⟨rfl, L, h1, h2, h3, h4⟩
  have HR := Lib.hid (And.intro h1 (And.intro h2 (And.intro h3 h4)))
  clear h1 h2 h3 h4
  go_wp2
  go_end0
  exact ⟨rfl, L, HR.out⟩
end Go.Proofs.Ytaocjjocncoahaa
