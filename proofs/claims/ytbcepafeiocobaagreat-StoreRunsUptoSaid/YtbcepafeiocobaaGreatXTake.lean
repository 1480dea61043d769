/-
  Layer 8 (store): what a record makes of a state, the program's way.
-/
import Derived.Test.YtbcepafeiocobaaGreatXLogB
set_option maxRecDepth 8000
namespace Go.X
open Go

/-- What a record makes of a state; none: it is no record. -/
def take (s : St) (d : List UInt8) : Option St :=
  let k := Rd.num ⟨d, false⟩
  if k.1 = 1 then
    let t := k.2.num
    let v := t.2.up 7
    if v.2.done then some { s with term := t.1, vote := (v.1 : Int) - 1 } else none
  else if k.1 = 2 then
    let t := k.2.num
    let i := t.2.num
    let n := i.2.up 2
    let x := n.2.text 65536
    if x.2.done then some { s with l := s.l ++ [⟨t.1, i.1, (n.1 : Int), x.1⟩] } else none
  else if k.1 = 3 then
    let i := k.2.num
    if i.2.done then some { s with l := s.l.takeWhile fun e => decide (e.index < i.1) } else none
  else if k.1 = 4 then
    let i := k.2.num
    let t := i.2.num
    let c := t.2.num
    let x := c.2.text 65536
    if x.2.done then some { s with snap := ⟨i.1, t.1, c.1, x.1⟩, l := [] } else none
  else none

theorem take_ok {s s' : St} {d : List UInt8} (hs : s.ok) (hl : s.l.length + 1 ≤ 1000000000) (h : take s d = some s') : s'.ok ∧ s'.l.length ≤ s.l.length + 1 := by
  unfold take at h
  simp only [] at h
  split at h
  · split at h
    · cases h
      have h1 := Rd.num_lt (Rd.num ⟨d, false⟩).2
      have h2 := Rd.up_le (Rd.num (Rd.num ⟨d, false⟩).2).2 7
      exact ⟨⟨h1, by dsimp only; omega, hs.snap, hs.l, hs.len⟩, by dsimp only; omega⟩
    · cases h
  · split at h
    · split at h
      · cases h
        refine ⟨⟨hs.term, hs.vote, hs.snap, fun e he => ?_, by simp; omega⟩, by simp⟩
        rcases List.mem_append.1 he with he | he
        · exact hs.l e he
        · simp only [List.mem_singleton] at he
          subst he
          refine ⟨Rd.num_lt _, Rd.num_lt _, ?_, ?_⟩
          · have := Rd.up_le (Rd.num (Rd.num (Rd.num ⟨d, false⟩).2).2).2 2
            dsimp only; omega
          · have := (Rd.text_len (Rd.up (Rd.num (Rd.num (Rd.num ⟨d, false⟩).2).2).2 2).2 65536).2
            dsimp only; omega
      · cases h
    · split at h
      · split at h
        · cases h
          have hsub := List.takeWhile_sublist (fun e : Ent => decide (e.index < (Rd.num ⟨d, false⟩).2.num.1)) (l := s.l)
          refine ⟨⟨hs.term, hs.vote, hs.snap, fun e he => hs.l e (hsub.subset he), ?_⟩, ?_⟩
          · have := hsub.length_le; have := hs.len; dsimp only; omega
          · have := hsub.length_le; dsimp only; omega
        · cases h
      · split at h
        · split at h
          · cases h
            refine ⟨⟨hs.term, hs.vote, ⟨Rd.num_lt _, Rd.num_lt _, Rd.num_lt _, ?_⟩, by simp, by simp⟩, by simp⟩
            have := (Rd.text_len (Rd.num (Rd.num (Rd.num (Rd.num ⟨d, false⟩).2).2).2).2 65536).2
            dsimp only; omega
          · cases h
        · cases h

/-- A state in memory, with a row of its own. -/
def stA (T e b : Nat) (s : St) : A := ex fun p : Option Addr × Nat => star (ca b T (s.cells p.1 s.l.length p.2)) (ow e 4 p.1 s.l.length p.2 (ecs s.l))

theorem Has.sta {w0 w : World} {r : List A} {T e b : Nat} {s : St} (H : Has w0 w (stA T e b s :: r)) : ∃ a c, Has w0 w (ca b T (s.cells a s.l.length c) :: ow e 4 a s.l.length c (ecs s.l) :: r) := by
  obtain ⟨⟨a, c⟩, H⟩ := H.ex
  exact ⟨a, c, H.star⟩
theorem Has.mksta {w0 w : World} {r : List A} {T e b n c : Nat} {s : St} {a : Option Addr} (H : Has w0 w (ca b T (s.cells a n c) :: ow e 4 a n c (ecs s.l) :: r)) (hn : n = s.l.length) : Has w0 w (stA T e b s :: r) := by
  subst hn
  exact Has.mkex (a, c) H.unstar

theorem takeWhile_is {l : List Ent} {p : Ent → Bool} {k : Nat} (hk : k ≤ l.length) (h1 : ∀ j (hj : j < k), p (l[j]'(by omega)) = true) (h2 : ∀ h : k < l.length, p l[k] = false) : l.takeWhile p = l.take k := by
  induction l generalizing k with
  | nil => simp
  | cons x t ih =>
    cases k with
    | zero =>
      have := h2 (by simp)
      simp only [List.getElem_cons_zero] at this
      simp [this]
    | succ k =>
      have h0 := h1 0 (by omega)
      simp only [List.getElem_cons_zero] at h0
      rw [List.takeWhile_cons, if_pos h0, List.take_succ_cons, ih (by simpa using hk) (fun j hj => by have := h1 (j + 1) (by omega); simpa using this) (fun h => by have := h2 (by simpa using h); simpa using this)]

end Go.X
namespace Go.Proofs.YtbcepafeiocobaaGreat
open Go.X

section
variable {w0 w : World} {r : List A} {b : Nat} {s : St}

theorem store_take_spec (hs : s.ok) (hlen : s.l.length + 1 ≤ 1000000000) {d : List UInt8} (hd : d.length ≤ 4611686018427387904) (H : Has w0 w (stA 45 69 b s :: r)) :
    Calls Tryz.prog 22 #[pv b 0, .string (bs d)] w fun e w' => ∃ v, e = .returned v ∧ v = .bool (take s d).isSome ∧ Has w0 w' (stA 45 69 b ((take s d).getD s) :: r) := by
  refine store_State_take.ok _ _ _ ?_
  refine (pack_From_spec d H).mono ?_
  rintro e w1 ⟨v, rfl, br, rfl, H⟩
  refine ⟨_, _, rfl, ?_⟩
  refine (pack_Reader_Num_spec H hd).mono ?_
  rintro e w2 ⟨v, rfl, rfl, H⟩
  have l1 := Rd.num_len ⟨d, false⟩
  have l1 : (Rd.num ⟨d, false⟩).2.l.length ≤ d.length := l1
  unfold take
  generalize hk : Rd.num ⟨d, false⟩ = k at l1 H ⊢
  clear hk
  simp only []
  refine ⟨_, rfl, bif_i (fun h => ?_) fun h => ?_⟩
  · have h : k.1 = 1 := by simp at h; omega
    rw [if_pos h]
    refine (pack_Reader_Num_spec H (by omega)).mono ?_
    rintro e w3 ⟨v, rfl, rfl, H⟩
    have l2 := Rd.num_len k.2
    refine ⟨_, rfl, ?_⟩
    refine (pack_Reader_Up_spec (k := 7) H (by omega) (by omega)).mono ?_
    rintro e w4 ⟨v, rfl, rfl, H⟩
    have hv := Rd.up_le k.2.num.2 7
    refine ⟨_, rfl, H.al fun b2 w5 H => Has.st H (by simp) rfl fun w6 H => ?_⟩
    refine (pack_Reader_Done_spec H.f1).mono ?_
    rintro e w7 ⟨v, rfl, rfl, H⟩
    refine ⟨_, rfl, bif_i (fun h2 => ?_) fun h2 => ?_⟩
    · have h2 : ¬ (k.2.num.2.up 7).2.done = true := by simpa using h2
      rw [if_neg h2]
      exact ⟨rfl, H.drop.drop⟩
    · have h2 : (k.2.num.2.up 7).2.done = true := by simpa using h2
      rw [if_pos h2]
      refine ⟨_, _, H.f1.row rfl, ?_⟩
      have H := H.drop.drop
      obtain ⟨a, c, H⟩ := H.sta
      refine Has.st H (by simp [St.cells]) rfl fun w8 H => ⟨rfl, ?_⟩
      rw [w64_id (by omega)] at H
      exact Has.mksta (s := { s with term := k.2.num.1, vote := ((k.2.num.2.up 7).1 : Int) - 1 }) H rfl
  have h : ¬ k.1 = 1 := by simp at h; omega
  rw [if_neg h]
  refine bif_i (fun h => ?_) fun h => ?_
  · have h : k.1 = 2 := by simp at h; omega
    rw [if_pos h]
    refine (pack_Reader_Num_spec H (by omega)).mono ?_
    rintro e w3 ⟨v, rfl, rfl, H⟩
    have l2 := Rd.num_len k.2
    refine ⟨_, rfl, ?_⟩
    refine (pack_Reader_Num_spec H (by omega)).mono ?_
    rintro e w4 ⟨v, rfl, rfl, H⟩
    have l3 := Rd.num_len k.2.num.2
    refine ⟨_, rfl, ?_⟩
    refine (pack_Reader_Up_spec (k := 2) H (by omega) (by omega)).mono ?_
    rintro e w5 ⟨v, rfl, rfl, H⟩
    have l4 := Rd.up_len k.2.num.2.num.2 2
    refine ⟨_, rfl, ?_⟩
    refine (pack_Reader_Text_spec (k := 65536) H (by omega) (by omega)).mono ?_
    rintro e w6 ⟨v, rfl, rfl, H⟩
    refine ⟨_, rfl, H.al fun b2 w7 H => Has.st H (by simp) rfl fun w8 H => ?_⟩
    refine (pack_Reader_Done_spec H.f1).mono ?_
    rintro e w9 ⟨v, rfl, rfl, H⟩
    refine ⟨_, rfl, bif_i (fun h2 => ?_) fun h2 => ?_⟩
    · have h2 : ¬ ((k.2.num.2.num.2.up 2).2.text 65536).2.done = true := by simpa using h2
      rw [if_neg h2]
      exact ⟨rfl, H.drop.drop⟩
    · have h2 : ((k.2.num.2.num.2.up 2).2.text 65536).2.done = true := by simpa using h2
      rw [if_pos h2]
      refine H.dr fun w10 H => ?_
      obtain ⟨a, c, H⟩ := H.f2.sta
      refine ⟨_, _, _, H.cell rfl, _, _, _, _, H.f3.row rfl, H.al fun b3 w11 H => ⟨H.f1.cell rfl, ?_⟩⟩
      refine Has.app (m := 1) elE H.f2 (H.src (vs := Ent.cells ⟨k.2.num.1, k.2.num.2.num.1, ((k.2.num.2.num.2.up 2).1 : Int), ((k.2.num.2.num.2.up 2).2.text 65536).1⟩) elE rfl rfl) (by omega) (by simp [maxLen]; omega) fun a12 c12 w12 H => ?_
      refine Has.st H.f2 (by simp [St.cells]) rfl fun w13 H => ⟨rfl, ?_⟩
      refine Has.mksta (s := { s with l := s.l ++ [⟨k.2.num.1, k.2.num.2.num.1, ((k.2.num.2.num.2.up 2).1 : Int), ((k.2.num.2.num.2.up 2).2.text 65536).1⟩] }) (a := a12) (n := s.l.length + 1) (c := c12) ?_ (by simp)
      have e2 : ecs s.l ++ Ent.cells ⟨k.2.num.1, k.2.num.2.num.1, ((k.2.num.2.num.2.up 2).1 : Int), ((k.2.num.2.num.2.up 2).2.text 65536).1⟩ = ecs (s.l ++ [⟨k.2.num.1, k.2.num.2.num.1, ((k.2.num.2.num.2.up 2).1 : Int), ((k.2.num.2.num.2.up 2).2.text 65536).1⟩]) := by rw [← ecs_append]; simp [ecs]
      rw [e2] at H
      exact H.f2.drop.f2.drop.f2.drop
  have h2 : ¬ k.1 = 2 := by simp at h; omega
  rw [if_neg h2]
  refine bif_i (fun h => ?_) fun h => ?_
  · have h : k.1 = 3 := by simp at h; omega
    rw [if_pos h]
    refine (pack_Reader_Num_spec H (by omega)).mono ?_
    rintro e w3 ⟨v, rfl, rfl, H⟩
    refine ⟨_, rfl, ?_⟩
    refine (pack_Reader_Done_spec H).mono ?_
    rintro e w4 ⟨v, rfl, rfl, H⟩
    refine ⟨_, rfl, bif_i (fun h3 => ?_) fun h3 => ?_⟩
    · have h3 : ¬ k.2.num.2.done = true := by simpa using h3
      rw [if_neg h3]
      exact ⟨rfl, H.drop⟩
    have h3 : k.2.num.2.done = true := by simpa using h3
    rw [if_pos h3]
    obtain ⟨a, c, H⟩ := H.drop.sta
    refine ⟨fun n w => ∃ m : Nat, n = (m : Int) ∧ m ≤ s.l.length ∧ (∀ j (hj : j < m) (hl : j < s.l.length), (s.l[j]).index < k.2.num.1) ∧ Has w0 w (ca b 45 (s.cells a s.l.length c) :: ow 69 4 a s.l.length c (ecs s.l) :: r), fun n _ => s.l.length + 1 - n.toNat, ⟨0, rfl, by omega, fun j hj => by omega, H⟩, ?_⟩
    clear H
    rintro _ n w5 ⟨m, rfl, hm, hall, H⟩
    have fin : ∀ {w6 : World}, (∀ h : m < s.l.length, ¬ (s.l[m]).index < k.2.num.1) → Has w0 w6 (ca b 45 (wr (s.cells a s.l.length c) (0 + 6) [.slice a ((m : Int)).toNat c]) :: ow 69 4 a s.l.length c (ecs s.l) :: r) →
        Has w0 w6 (stA 45 69 b ((some { s with l := s.l.takeWhile fun e => decide (e.index < k.2.num.1) }).getD s) :: r) := by
      intro w6 hstop H
      have htw : (s.l.takeWhile fun e => decide (e.index < k.2.num.1)) = s.l.take m := takeWhile_is hm (fun j hj => decide_eq_true (hall j hj (by omega))) (fun h => decide_eq_false (hstop h))
      have H2 := (H.f1.owTake hm).f1
      rw [ecs_take] at H2
      refine Has.mksta (s := { s with l := s.l.takeWhile fun e => decide (e.index < k.2.num.1) }) (a := a) (n := m) (c := c) ?_ (by dsimp only; rw [htw]; simp; omega)
      dsimp only
      rw [htw]
      exact H2
    have hcap := H.f1.owLen.2.1
    refine ⟨_, _, _, H.cell rfl, bif_i (fun h4 => ?_) fun h4 => ?_⟩
    · have h4 : m < s.l.length := by simp at h4; omega
      obtain ⟨b1, o1, hb1, hc1⟩ := H.f1.vw.entAt (i := m) (j := 1) h4 rfl
      refine ⟨_, _, _, H.cell rfl, b1, o1, hb1, by omega, by omega, _, hc1, bif_i (fun h5 => ?_) fun h5 => ?_⟩
      · have h5 : (s.l[m]).index < k.2.num.1 := by simp at h5; omega
        rw [w64_id (by omega)]
        refine ⟨⟨m + 1, by omega, h4, fun j hj hl => ?_, H⟩, by dsimp only; omega⟩
        by_cases hjm : j = m
        · subst hjm; exact h5
        · exact hall j (by omega) hl
      · have h5 : ¬ (s.l[m]).index < k.2.num.1 := by simp at h5; omega
        refine ⟨_, _, _, H.cell rfl, by omega, by omega, Has.st H (by simp [St.cells]) rfl fun w6 H => ⟨rfl, fin (fun _ => h5) H⟩⟩
    · have h4 : m = s.l.length := by simp at h4; omega
      refine ⟨_, _, _, H.cell rfl, by omega, by omega, Has.st H (by simp [St.cells]) rfl fun w6 H => ⟨rfl, fin (fun h => by omega) H⟩⟩
  have h3 : ¬ k.1 = 3 := by simp at h; omega
  rw [if_neg h3]
  refine bif_i (fun h => ?_) fun h => ?_
  · have h : k.1 = 4 := by simp at h; omega
    rw [if_pos h]
    refine (pack_Reader_Num_spec H (by omega)).mono ?_
    rintro e w3 ⟨v, rfl, rfl, H⟩
    have l2 := Rd.num_len k.2
    refine ⟨_, rfl, ?_⟩
    refine (pack_Reader_Num_spec H (by omega)).mono ?_
    rintro e w4 ⟨v, rfl, rfl, H⟩
    have l3 := Rd.num_len k.2.num.2
    refine ⟨_, rfl, ?_⟩
    refine (pack_Reader_Num_spec H (by omega)).mono ?_
    rintro e w5 ⟨v, rfl, rfl, H⟩
    have l4 := Rd.num_len k.2.num.2.num.2
    refine ⟨_, rfl, ?_⟩
    refine (pack_Reader_Text_spec (k := 65536) H (by omega) (by omega)).mono ?_
    rintro e w6 ⟨v, rfl, rfl, H⟩
    refine ⟨_, rfl, H.al fun b2 w7 H => Has.st H (by simp) rfl fun w8 H => ?_⟩
    refine (pack_Reader_Done_spec H.f1).mono ?_
    rintro e w9 ⟨v, rfl, rfl, H⟩
    refine ⟨_, rfl, bif_i (fun h2 => ?_) fun h2 => ?_⟩
    · have h2 : ¬ (k.2.num.2.num.2.num.2.text 65536).2.done = true := by simpa using h2
      rw [if_neg h2]
      exact ⟨rfl, H.drop.drop⟩
    · have h2 : (k.2.num.2.num.2.num.2.text 65536).2.done = true := by simpa using h2
      rw [if_pos h2]
      obtain ⟨a, c, H'⟩ := H.f2.sta
      refine ⟨_, _, _, _, H.f1.row rfl, ?_⟩
      refine Has.st H' (by simp [St.cells]) rfl fun w10 H => Has.st H (by simp [St.cells, wr]) rfl fun w11 H => ⟨rfl, ?_⟩
      have H := (H.f3.drop.f2.drop.f1.drop.mkow0 69 4).f1
      exact Has.mksta (s := { s with snap := ⟨k.2.num.1, k.2.num.2.num.1, k.2.num.2.num.2.num.1, (k.2.num.2.num.2.num.2.text 65536).1⟩, l := [] }) H rfl
  have h4 : ¬ k.1 = 4 := by simp at h; omega
  rw [if_neg h4]
  exact ⟨rfl, H.drop⟩

end
end Go.Proofs.YtbcepafeiocobaaGreat
