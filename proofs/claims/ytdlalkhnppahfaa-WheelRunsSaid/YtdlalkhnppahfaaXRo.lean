/-
  Pieces that are owned, in another order: over whatever program.
-/
import Derived.Test.YtdlalkhnppahfaaXSep
namespace Go.X
open Go

def adj (i j : Nat) : Nat := bif Nat.blt i j then j - 1 else j

/-- These come to the front, in this order (by fuel, so that it reduces). -/
def roF {α : Type} : Nat → List Nat → List α → List α
  | 0, _, l => l
  | _ + 1, [], l => l
  | n + 1, i :: is, l => match l[i]? with
    | some x => x :: roF n (is.map (adj i)) (l.eraseIdx i)
    | none => l

theorem erase_perm {α : Type} : ∀ {l : List α} {i : Nat} (h : i < l.length), (l[i] :: l.eraseIdx i).Perm l
  | x :: l, 0, _ => List.Perm.refl _
  | x :: l, i + 1, h => by
    have h' : i < l.length := by simpa using h
    simp only [List.getElem_cons_succ, List.eraseIdx_cons_succ]
    exact (List.Perm.swap _ _ _).trans (List.Perm.cons _ (erase_perm h'))

theorem roF_perm {α : Type} : ∀ (n : Nat) (is : List Nat) (l : List α), (roF n is l).Perm l
  | 0, _, _ => List.Perm.refl _
  | _ + 1, [], _ => List.Perm.refl _
  | n + 1, i :: is, l => by
    rw [roF]
    cases hx : l[i]? with
    | none => exact List.Perm.refl _
    | some x =>
      obtain ⟨hi, rfl⟩ := List.getElem?_eq_some_iff.1 hx
      dsimp only
      exact (List.Perm.cons _ (roF_perm n (is.map (adj i)) (l.eraseIdx i))).trans (erase_perm hi)

theorem Has.ro {w0 w : World} {l : List A} (H : Has w0 w l) (is : List Nat) : Has w0 w (roF 20 is l) := H.perm (roF_perm 20 is l).symm
theorem Has.cut {w0 w : World} : ∀ {l : List A} (k : Nat), Has w0 w l → Has w0 w (l.drop k)
  | _, 0, H => H
  | [], _ + 1, H => H
  | _ :: _, k + 1, H => Has.cut k H.drop
/-- These are dropped, in this order to the front. -/
theorem Has.rm {w0 w : World} {l : List A} (H : Has w0 w l) (is : List Nat) : Has w0 w ((roF 20 is l).drop is.length) := (H.ro is).cut _

end Go.X
