/-
  Layer 9 (wheel): timers sorted.
-/
import Derived.Test.YtdlalkhnppahfaaXWheelE
import Derived.Test.YtdlalkhnppahfaaXSortLay
import Derived.Test.YtdlalkhnppahfaaXSortK
set_option maxRecDepth 8000
namespace Go.X
open Go

instance : Inhabited Tm := ⟨⟨0, 0, 0⟩⟩

def ltT (a b : Tm) : Bool := decide (a.turn < b.turn)
theorem swo_ltT : Sort.SWO ltT := ⟨fun x => by simp [ltT], fun x y z h1 h2 => by simp [ltT] at *; omega, fun x y z h1 h2 => by simp [ltT] at *; omega⟩

theorem tcs_get : ∀ (l : List Tm) (j : Nat), j < l.length * 3 → (tcs l)[j]? = some ((l.toArray[j / 3]!).cells[j % 3]!)
  | [], j, h => by simp at h
  | t :: l, j, h => by
    rw [tcs_cons]
    by_cases h3 : j < 3
    · rw [List.getElem?_append_left (by show j < 3; exact h3), Nat.div_eq_of_lt h3, Nat.mod_eq_of_lt h3]
      match j, h3 with
      | 0, _ => rfl
      | 1, _ => rfl
      | 2, _ => rfl
    · rw [List.getElem?_append_right (by show 3 ≤ j; omega)]
      have e1 : j / 3 = (j - 3) / 3 + 1 := by omega
      have e2 : j % 3 = (j - 3) % 3 := by omega
      have h' : j - 3 < l.length * 3 := by rw [List.length_cons] at h; omega
      have := tcs_get l (j - 3) h'
      rw [e1, e2]
      show (tcs l)[j - 3]? = _
      rw [this]
      have hl : (j - 3) / 3 < l.length := by omega
      simp [hl]

theorem flat_tcs (l : List Tm) : Sort.flatK Tm.cells 3 l.toArray = (tcs l).toArray := by
  refine Sort.ext_get! (by simp) fun j hj => ?_
  have hj' : j < l.length * 3 := by simpa using hj
  rw [Sort.get_flatK _ _ _ _ (by simpa using hj')]
  have := tcs_get l j hj'
  have hjl : j < (tcs l).length := by rw [tcs_length]; exact hj'
  rw [List.getElem?_eq_getElem hjl] at this
  have e : (tcs l).toArray[j]! = (tcs l)[j] := by rw [getElem!_pos (tcs l).toArray j (by simpa using hjl)]; simp
  rw [e]
  exact (Option.some.inj this).symm

end Go.X
namespace Go.Proofs.Ytdlalkhnppahfaa
open Go.X

noncomputable def tiT : TypeInfo := (Try.prog.info? 47).get (by kernel_rfl)
noncomputable def tiE : TypeInfo := (Try.prog.info? 53).get (by kernel_rfl)
theorem swK (n : Nat) (h2 : 2 ≤ n) : Lib.swapperK n tiE 25 = 9 := by
  have a : tiE.hasPointers = false := by kernel_rfl
  have b : tiE.bytes = 24 := by kernel_rfl
  have c : (n == 0) = false := by simp; omega
  have d : (n == 1) = false := by simp; omega
  simp [Lib.swapperK, a, b, c, d]

section
variable {w0 w : World} {r : List A} {b7 : Nat} {x : Rw}

abbrev bx (b7 : Nat) (x : Rw) : A := ca b7 47 [x.hdr]

theorem wheel_less_spec {W : World} {l : List Tm} {c : Nat} {a : Option Addr} {i j : Nat} (hi : i < l.length) (hj : j < l.length) (H : Has w0 W (Rw.own 53 ⟨a, c, l⟩ :: bx b7 ⟨a, c, l⟩ :: r)) :
    Calls Try.prog 26 #[.int .i64 i, .int .i64 j, pv b7 0] W fun e w' => e = .returned (.bool (ltT l[i] l[j])) ∧ ∃ q, w' = W.drewN q := by
  refine (wheel_less.ok (i : Int) (j : Int) b7 0 (R := fun v w' => v = .bool (ltT l[i] l[j]) ∧ ∃ q, w' = W.drewN q) ?_).mono ?_
  · rintro w1 rfl
    have H1 := H.drew
    have hv : Vw W.drew a (tcs l) := Has.vw H1
    obtain ⟨b1, o1, hb1, hr1⟩ := hv.tm hi
    obtain ⟨b2, o2, hb2, hr2⟩ := hv.tm hj
    refine ⟨_, _, _, H1.f1.cell rfl, b1, o1, hb1, by omega, by dsimp only; omega, _, hr1 2 _ rfl, _, _, _, H1.f1.cell rfl, b2, o2, hb2, by omega, by dsimp only; omega, _, hr2 2 _ rfl, ?_, 1, rfl⟩
    simp [ltT]
  · rintro e w' ⟨v, rfl, rfl, h⟩
    exact ⟨rfl, h⟩

theorem timers_sorted (hlen : x.l.length < 1000000) (H : Has w0 w (x.own 53 :: bx b7 x :: r)) :
    Calls Try.prog 25 #[.iface 47 x.hdr, .func (.func 26) #[] #[pv b7 0]] w fun e w' => e = .returned (.tuple #[]) ∧
      ∃ l' : List Tm, l'.Perm x.l ∧ l'.Pairwise (fun a b => ¬ b.turn < a.turn) ∧ Has w0 w' (Rw.own 53 ⟨x.a, x.c, l'⟩ :: bx b7 x :: r) := by
  by_cases h2 : 2 ≤ x.l.length
  · obtain ⟨b, ha, _⟩ := Has.owCell H (by omega)
    obtain ⟨a, c, l⟩ := x
    dsimp only at ha hlen h2
    subst ha
    unfold Rw.own at H
    dsimp only at H
    obtain ⟨hH, hblk⟩ := Has.holds H
    have hHK : Sort.HoldsK Tm.cells 3 w b 0 l.toArray := by unfold Sort.HoldsK; rw [flat_tcs]; exact hH
    have hput : ∀ (m : Nat) (os : Array Obj) (l' : List Tm), l'.length = l.length → Has w0 (Sort.grow (Sort.putRowK Tm.cells 3 (Sort.ahead w m) b 0 l'.toArray) os) (Rw.own 53 ⟨some ⟨b, 0, none⟩, c, l'⟩ :: bx b7 ⟨some ⟨b, 0, none⟩, c, l'⟩ :: r) := fun m os l' hl' => by
      have h1 := Has.putRow (H.ahead m) (F := Sort.flatK Tm.cells 3 l'.toArray) (by rw [flat_tcs]; simp [hl'])
      have h2 := Has.grow h1 os
      rw [flat_tcs] at h2
      unfold Rw.own bx Rw.hdr
      dsimp only
      rw [hl']
      unfold Sort.putRowK
      rw [flat_tcs]
      exact h2
    have hless : LessReadsK Try.prog 26 #[pv b7 0] Tm.cells 3 ltT b 0 l.toArray.size w := by
      intro m os dk hs i j hi hj
      have e : (#[.int .i64 (i : Int), .int .i64 (j : Int)] ++ #[pv b7 0] : Array Value) = #[.int .i64 (i : Int), .int .i64 (j : Int), pv b7 0] := rfl
      rw [e]
      have hs' : dk.toList.length = l.length := by simpa using hs
      have hi' : i < dk.toList.length := by rw [hs']; simpa using hi
      have hj' : j < dk.toList.length := by rw [hs']; simpa using hj
      have HW := hput m os dk.toList hs'
      have e2 : sortWorldK Tm.cells 3 w b 0 m dk os = Sort.grow (Sort.putRowK Tm.cells 3 (Sort.ahead w m) b 0 dk.toList.toArray) os := by unfold sortWorldK; simp
      rw [e2]
      have e3 : dk[i]! = dk.toList[i] := by
        have : i < dk.size := by simpa using hi'
        simp [this]
      have e4 : dk[j]! = dk.toList[j] := by
        have : j < dk.size := by simpa using hj'
        simp [this]
      rw [e3, e4]
      exact wheel_less_spec hi' hj' HW
    refine (Any.sort_Slice_cells_sorted Try.sl6 47 53 tiT tiE (by kernel_rfl) (by kernel_rfl) (by kernel_rfl) (by kernel_rfl) 25 (fun _ => by kernel_rfl) Tm.cells 3 (fun _ => rfl) (by kernel_rfl) (fun _ => by kernel_rfl)
      (fun t v hv => by simp only [Tm.cells, List.mem_cons, List.not_mem_nil, or_false] at hv; rcases hv with rfl | rfl | rfl <;> rfl) ltT swo_ltT 26 #[pv b7 0]
      (enters_of Try.func26 (by kernel_rfl) rfl) b 0 c l.toArray (by simpa using h2) (by simp; omega) 42 (by rw [swK _ (by simpa using h2)]; kernel_rfl) false
      (fun args W => run_callFunc_extern Try.func42 (by kernel_rfl) (by kernel_rfl) (by kernel_rfl) (e := Extern.ReflectliteSwapper.swap false) (by kernel_rfl) args W) w hless hHK hblk).mono ?_
    rintro e w' ⟨rfl, d', n, os, ⟨hp1, hp2, hp3⟩, hso, rfl⟩
    have hd : d'.toList.length = l.length := by simpa using hp1
    refine ⟨rfl, d'.toList, ?_, ?_, ?_⟩
    · have e1 : (d'.extract 0 l.toArray.size) = d' := by rw [← hp1]; simp
      have e2 : (l.toArray.extract 0 l.toArray.size) = l.toArray := by simp
      rw [e1, e2] at hp3
      simpa using hp3
    · rw [List.pairwise_iff_getElem]
      intro i j hi hj hij
      have h1 := hso i j (Nat.zero_le _) hij (by rw [← hp1]; simpa using hj)
      have e3 : d'[i]! = d'.toList[i] := by
        have : i < d'.size := by simpa using hi
        simp [this]
      have e4 : d'[j]! = d'.toList[j] := by
        have : j < d'.size := by simpa using hj
        simp [this]
      rw [e3, e4] at h1
      simpa [ltT] using h1
    · have := hput n os d'.toList hd
      unfold bx Rw.hdr at this ⊢
      dsimp only at this ⊢
      rw [hd] at this
      simpa using this
  · have h1 : x.l.length ≤ 1 := by omega
    have fin : ∀ (e : Ending) (w' : World), e = .returned (.tuple #[]) ∧ (∃ os, w' = Sort.grow w os) → e = .returned (.tuple #[]) ∧ ∃ l' : List Tm, l'.Perm x.l ∧ l'.Pairwise (fun a b => ¬ b.turn < a.turn) ∧ Has w0 w' (Rw.own 53 ⟨x.a, x.c, l'⟩ :: bx b7 x :: r) := by
      rintro e w' ⟨rfl, os, rfl⟩
      refine ⟨rfl, x.l, List.Perm.refl _, ?_, Has.grow H os⟩
      match hx : x.l, h1 with
      | [], _ => exact .nil
      | [t], _ => exact List.pairwise_singleton _ _
    have hn : x.l.length = 0 ∨ x.l.length = 1 := by omega
    rcases hn with hn | hn
    · refine (Any.sort_Slice_tiny Try.sl6 47 53 tiT tiE (by kernel_rfl) (by kernel_rfl) (by kernel_rfl) (by kernel_rfl) 25 (fun _ => by kernel_rfl) x.a x.l.length x.c h1 34
        (by rw [hn]; kernel_rfl) (.func 26) #[] #[pv b7 0] w).mono fin
    · refine (Any.sort_Slice_tiny Try.sl6 47 53 tiT tiE (by kernel_rfl) (by kernel_rfl) (by kernel_rfl) (by kernel_rfl) 25 (fun _ => by kernel_rfl) x.a x.l.length x.c h1 35
        (by rw [hn]; kernel_rfl) (.func 26) #[] #[pv b7 0] w).mono fin

end
end Go.Proofs.Ytdlalkhnppahfaa
