/-
  Layer 8 (store): opening, the program's way; what it tells as its state.
-/
import Derived.Test.YtbcepafeiocobaaGreatXWal
set_option maxRecDepth 8000
namespace Go.X
open Go

def first8 (m : Nat) : St := ⟨0, -1, ⟨0, 0, m, []⟩, []⟩
def zero8 : St := ⟨0, 0, ⟨0, 0, 0, []⟩, []⟩
def takes (s : St) : List (List UInt8) → Option St
  | [] => some s
  | d :: l => (take s d).bind fun s => takes s l

theorem takes_append (a b : List (List UInt8)) : ∀ s, takes s (a ++ b) = (takes s a).bind fun s => takes s b := by
  induction a with
  | nil => intro s; rfl
  | cons d a ih =>
    intro s
    simp only [List.cons_append, takes]
    cases take s d with
    | none => rfl
    | some t => exact ih t

theorem first8_ok {m : Nat} (h : m < 18446744073709551616) : (first8 m).ok := ⟨by simp [first8], by simp [first8], ⟨by simp [first8], by simp [first8], h, by simp [first8]⟩, by simp [first8], by simp [first8]⟩

theorem takes_ok : ∀ (l : List (List UInt8)) {s s' : St}, s.ok → s.l.length + l.length ≤ 1000000000 → takes s l = some s' → s'.ok ∧ s'.l.length ≤ s.l.length + l.length
  | [], s, s', hs, _, h => by
    simp only [takes, Option.some.injEq] at h; subst h; exact ⟨hs, by simp⟩
  | d :: l, s, s', hs, hl, h => by
    simp only [List.length_cons] at hl
    simp only [takes] at h
    cases ht : take s d with
    | none => rw [ht] at h; cases h
    | some t =>
      rw [ht] at h
      have h1 := take_ok hs (by omega) ht
      have h2 := takes_ok l h1.1 (by omega) h
      exact ⟨h2.1, by simp only [List.length_cons]; omega⟩

theorem first_rec {s x : List UInt8} {k : Nat} (h : first s = some (x, k)) : x.length ≤ s.length := by
  unfold first at h
  split at h
  · cases h
  · simp only [Option.map_eq_some_iff, Option.bind_eq_some_iff] at h
    obtain ⟨y, ⟨o, ho, hy⟩, hxy⟩ := h
    simp only [Prod.mk.injEq] at hxy
    obtain ⟨rfl, _⟩ := hxy
    have h1 := decP_len _ _ _ (Nat.le_refl _) ho
    unfold recOf at hy
    split at hy
    · cases hy
    · split at hy
      · cases hy; simp at h1 ⊢; omega
      · cases hy

theorem scan_recs (k : Nat) : ∀ (s : List UInt8), s.length ≤ k → (∀ x ∈ (scan s).1, x.length ≤ s.length) ∧ (scan s).1.length ≤ s.length := by
  induction k with
  | zero =>
    intro s hs
    cases hf : first s with
    | none => rw [scan_none hf]; simp
    | some p => obtain ⟨x, k⟩ := p; have := first_pos hf; omega
  | succ k ih =>
    intro s hs
    cases hf : first s with
    | none => rw [scan_none hf]; simp
    | some p =>
      obtain ⟨x, n⟩ := p
      have h1 := first_pos hf
      have h2 := ih (s.drop n) (by simp; omega)
      rw [scan_some hf]
      simp only [List.length_drop] at h2
      refine ⟨fun y hy => ?_, ?_⟩
      · rcases List.mem_cons.1 hy with rfl | hy
        · exact first_rec hf
        · have := h2.1 y hy; omega
      · have := h2.2; simp only [List.length_cons]; omega

theorem opened_recs {d : Dk} (h : d.ok) {n : Nat} (hn : n < 16) : (∀ x ∈ (d.opened n).2.1, x.length ≤ 1048576) ∧ (d.opened n).2.1.length ≤ 1048576 := by
  have h1 := h.read_len hn
  have h2 := scan_recs _ (d.read n).1 (Nat.le_refl _)
  have h3 : (∀ x ∈ (scan (d.read n).1).1, x.length ≤ 1048576) ∧ (scan (d.read n).1).1.length ≤ 1048576 := ⟨fun x hx => by have := h2.1 x hx; omega, by have := h2.2; omega⟩
  unfold Dk.opened
  split
  · exact ⟨by simp, by simp⟩
  · split
    · exact h3
    · exact h3

/-- What opening a store answers: an error, a state, and the disk then. -/
def Dk.open8 (d : Dk) (n m : Nat) : Nat × Option St × Dk :=
  if sound m = false then (1, none, d)
  else if (d.opened n).1 ≠ 0 then ((d.opened n).1, none, (d.opened n).2.2)
  else match takes (first8 m) (d.opened n).2.1 with
    | none => (2, none, (d.opened n).2.2)
    | some s => if s.right then (0, some s, (d.opened n).2.2) else (2, none, (d.opened n).2.2)

/-- A store in memory, its disk elsewhere. -/
def stoA (TS TL TE b db n : Nat) (s : St) : A := ex fun p : Option Addr × Nat × Nat => star (ca b TS (pv p.2.2 0 :: s.cells p.1 s.l.length p.2.1)) (star (ow TE 4 p.1 s.l.length p.2.1 (ecs s.l)) (ca p.2.2 TL [pv db 0, .int .i64 (n : Int)]))

theorem Has.sto {w0 w : World} {r : List A} {TS TL TE b db n : Nat} {s : St} (H : Has w0 w (stoA TS TL TE b db n s :: r)) : ∃ a c lb, Has w0 w (ca b TS (pv lb 0 :: s.cells a s.l.length c) :: ow TE 4 a s.l.length c (ecs s.l) :: ca lb TL [pv db 0, .int .i64 (n : Int)] :: r) := by
  obtain ⟨⟨a, c, lb⟩, H⟩ := H.ex
  exact ⟨a, c, lb, H.star.f1.star.f2⟩
theorem Has.mksto {w0 w : World} {r : List A} {TS TL TE b db n k c lb : Nat} {s : St} {a : Option Addr} (H : Has w0 w (ca b TS (pv lb 0 :: s.cells a k c) :: ow TE 4 a k c (ecs s.l) :: ca lb TL [pv db 0, .int .i64 (n : Int)] :: r)) (hk : k = s.l.length) : Has w0 w (stoA TS TL TE b db n s :: r) := by
  subst hk
  exact Has.mkex (a, c, lb) (Has.unstar (Has.f1 (Has.unstar (H.b2))))

end Go.X
namespace Go.Proofs.YtbcepafeiocobaaGreat
open Go.X

section
variable {w0 w : World} {r : List A} {b db : Nat} {d : Dk} {s : St} {n : Nat}

abbrev stoB (b db n : Nat) (s : St) : A := stoA 81 108 69 b db n s
abbrev dskB (db : Nat) (d : Dk) : A := pdA 73 db d

theorem store_Open_spec (hd : d.ok) (hn : n < 16) {m : Nat} (hm : m < 18446744073709551616) (H : Has w0 w (dskB db d :: r)) :
    Calls Tryz.prog 9 #[pv db 0, .int .i64 (n : Int), .int .u64 (m : Int)] w fun e w' => ∃ v, e = .returned v ∧
      match (d.open8 n m).2.1 with
      | none => (d.open8 n m).1 ≠ 0 ∧ v = .tuple #[.pointer none, zero8.val none 0 0, .int .i64 ((d.open8 n m).1 : Int)] ∧ Has w0 w' (dskB db (d.open8 n m).2.2 :: r)
      | some s => s.ok ∧ s.l.length ≤ 1048576 ∧ s.right = true ∧ (d.open8 n m).1 = 0 ∧ ∃ b a c, v = .tuple #[pv b 0, s.val a s.l.length c, .int .i64 0] ∧ Has w0 w' (stoB b db n s :: ow 69 4 a s.l.length c (ecs s.l) :: dskB db (d.open8 n m).2.2 :: r) := by
  refine store_Open.ok _ _ _ _ ?_
  refine H.al fun b1 w1 H => ?_
  refine (quorum_Sound_spec H hm).mono ?_
  rintro e w2 ⟨v, rfl, rfl, H⟩
  refine ⟨_, rfl, bif_i (fun h => ?_) fun h => ?_⟩
  · have h : sound m = false := by simp [sound] at h ⊢; omega
    have e : d.open8 n m = (1, none, d) := by unfold Dk.open8; rw [if_pos h]
    rw [e]
    exact Has.st H (by simp) rfl fun w3 H => ⟨_, _, _, _, _, _, _, _, _, H.row rfl, by simp, rfl, H.drop⟩
  have h : sound m = true := by simp [sound] at h ⊢; omega
  have hne : ¬ sound m = false := by simp [h]
  refine (wal_Open_spec hd hn H.f1).mono ?_
  rintro e w4 ⟨v, rfl, hcase⟩
  rcases hcase with ⟨h0, bl, al, cl, rfl, H⟩ | ⟨h0, rfl, H⟩
  rotate_left
  · have e : d.open8 n m = ((d.opened n).1, none, (d.opened n).2.2) := by unfold Dk.open8; rw [if_neg hne, if_pos h0]
    rw [e]
    refine .inl ⟨_, _, _, _, rfl, bif_t (by simp; omega) ?_⟩
    exact Has.st H.f1 (by simp) rfl fun w3 H => ⟨_, _, _, _, _, _, _, _, _, H.row rfl, h0, rfl, H.drop⟩
  refine .inr ⟨_, _, _, _, _, _, rfl, bif_f rfl ?_⟩
  obtain ⟨hr1, hr2⟩ := opened_recs hd hn
  have hop : d.open8 n m = match takes (first8 m) (d.opened n).2.1 with
    | none => (2, none, (d.opened n).2.2)
    | some s => if s.right then (0, some s, (d.opened n).2.2) else (2, none, (d.opened n).2.2) := by unfold Dk.open8; rw [if_neg hne, if_neg (by simp [h0])]
  clear h0
  generalize (d.opened n).2.1 = recs at H hr1 hr2 hop
  generalize (d.opened n).2.2 = d2 at H hop
  refine H.al fun b2 w5 H => Has.st H (by simp) rfl fun w6 H => ?_
  have H : Has w0 w6 (stA 45 69 b2 (first8 m) :: logA 108 bl db n :: ow 9 1 al recs.length cl (ss recs) :: dskB db d2 :: ca b1 45 (zero8.cells none 0 0) :: r) := (H.mkow0 69 4).f1.mksta rfl
  refine ⟨fun i w' => ∃ (k : Nat) (s : St), i = (k : Int) ∧ k ≤ recs.length ∧ takes (first8 m) (recs.take k) = some s ∧ Has w0 w' (stA 45 69 b2 s :: logA 108 bl db n :: ow 9 1 al recs.length cl (ss recs) :: dskB db d2 :: ca b1 45 (zero8.cells none 0 0) :: r),
    fun i _ => recs.length + 1 - i.toNat, ⟨0, first8 m, rfl, by omega, rfl, H⟩, ?_⟩
  clear H
  rintro _ i w7 ⟨k, s, rfl, hk, hts, H⟩
  have hlt : (recs.take k).length = k := by simp; omega
  have hsok := takes_ok (recs.take k) (first8_ok hm) (by simp [first8]; omega) hts
  have hs0 : (first8 m).l.length = 0 := rfl
  rw [hlt, hs0] at hsok
  obtain ⟨hsok, hslen⟩ := hsok
  have bad : ∀ {w8 : World}, Has w0 w8 (ca b1 45 (zero8.cells none 0 0) :: dskB db d2 :: r) → d.open8 n m = (2, none, d2) → stD w8 b1 0 [.int .u64 0, .int .i64 0, .int .u64 0, .int .u64 0, .int .u64 0, .string ⟨#[]⟩, .slice none 0 0] fun w_10 =>
      (∃ HardTerm3 : Int, ∃ HardVote3 : Int, ∃ SnapIndex3 : Int, ∃ SnapTerm3 : Int, ∃ SnapConfig3 : Int, ∃ SnapData3 : ByteArray, ∃ (Entriesa3 : Option Addr) (Entriesn3 Entriesc3 : Nat), rdRow w_10 b1 0 [.int .u64 HardTerm3, .int .i64 HardVote3, .int .u64 SnapIndex3, .int .u64 SnapTerm3, .int .u64 SnapConfig3, .string SnapData3, .slice Entriesa3 Entriesn3 Entriesc3] ∧
      (match (d.open8 n m).2.1 with
      | none => (d.open8 n m).1 ≠ 0 ∧ (Value.tuple #[.pointer none, .agg #[.int .u64 HardTerm3, .int .i64 HardVote3, .int .u64 SnapIndex3, .int .u64 SnapTerm3, .int .u64 SnapConfig3, .string SnapData3, .slice Entriesa3 Entriesn3 Entriesc3], .int .i64 2]) = .tuple #[.pointer none, zero8.val none 0 0, .int .i64 ((d.open8 n m).1 : Int)] ∧ Has w0 w_10 (dskB db (d.open8 n m).2.2 :: r)
      | some s => s.ok ∧ s.l.length ≤ 1048576 ∧ s.right = true ∧ (d.open8 n m).1 = 0 ∧ ∃ b a c, (Value.tuple #[.pointer none, .agg #[.int .u64 HardTerm3, .int .i64 HardVote3, .int .u64 SnapIndex3, .int .u64 SnapTerm3, .int .u64 SnapConfig3, .string SnapData3, .slice Entriesa3 Entriesn3 Entriesc3], .int .i64 2]) = .tuple #[pv b 0, s.val a s.l.length c, .int .i64 0] ∧ Has w0 w_10 (stoB b db n s :: ow 69 4 a s.l.length c (ecs s.l) :: dskB db (d.open8 n m).2.2 :: r))) := by
    intro w8 H e
    rw [e]
    exact Has.st H (by simp [St.cells]) rfl fun w9 H => ⟨_, _, _, _, _, _, _, _, _, H.row rfl, by simp, rfl, H.drop⟩
  refine bif_i (fun h => ?_) fun h => ?_
  · have h : k < recs.length := by simp at h; omega
    obtain ⟨b3, o3, hb3, hc3⟩ := (H.f2.vw).at (by simp; omega)
    refine ⟨b3, o3, hb3, by omega, by omega, _, by rw [Int.toNat_natCast, Nat.mul_one]; exact hc3 k (.string (bs recs[k])) (by rw [ss_get?, List.getElem?_eq_getElem h]; rfl), ?_⟩
    have hrl := hr1 _ (List.getElem_mem h)
    refine (store_take_spec hsok (by omega) (by omega) H).mono ?_
    rintro e w8 ⟨v, rfl, rfl, H⟩
    have hsplit : recs.take k ++ recs[k] :: recs.drop (k + 1) = recs := by rw [← List.drop_eq_getElem_cons h, List.take_append_drop]
    refine ⟨_, rfl, bif_i (fun h2 => ?_) fun h2 => ?_⟩
    · have h2 : take s recs[k] = none := by simpa using h2
      refine bad H.drop.drop.drop.f1 ?_
      have : takes (first8 m) recs = none := by
        rw [← hsplit, takes_append, hts]
        show (take s recs[k]).bind _ = none
        rw [h2]; rfl
      rw [hop, this]
    · obtain ⟨s2, h2⟩ : ∃ s2, take s recs[k] = some s2 := by
        cases ht : take s recs[k] with
        | none => rw [ht] at h2; simp at h2
        | some t => exact ⟨t, rfl⟩
      rw [h2] at H
      rw [w64_id (by omega)]
      refine ⟨⟨k + 1, s2, by omega, h, ?_, H⟩, by dsimp only; omega⟩
      rw [List.take_succ_eq_append_getElem h, takes_append, hts]
      show (take s recs[k]).bind _ = _
      rw [h2]; rfl
  have h : k = recs.length := by simp at h; omega
  subst h
  rw [List.take_length] at hts
  rw [hts] at hop
  simp only [] at hop
  obtain ⟨a, c, H⟩ := H.sta
  refine ⟨_, _, _, _, _, _, _, _, _, H.row rfl, ?_⟩
  refine (store_right_spec hsok H.f1.vw).mono ?_
  rintro e w8 ⟨v, rfl, rfl, H2⟩
  have H : Has w0 w8 (ca b2 45 (s.cells a s.l.length c) :: ow 69 4 a s.l.length c (ecs s.l) :: logA 108 bl db n :: ow 9 1 al recs.length cl (ss recs) :: dskB db d2 :: ca b1 45 (zero8.cells none 0 0) :: r) := H.frame H2
  clear H2
  refine ⟨_, rfl, bif_i (fun h2 => ?_) fun h2 => ?_⟩
  · have h2 : s.right = false := by simpa using h2
    exact bad H.drop.drop.drop.drop.f1 (by rw [hop, if_neg (by simp [h2])])
  have h2 : s.right = true := by simpa using h2
  rw [if_pos h2] at hop
  rw [hop]
  refine H.dr fun w9 H => ⟨_, _, _, _, _, _, _, _, _, H.row rfl, _, _, _, _, _, _, _, _, _, H.row rfl, ?_, ?_⟩
  · refine H.al fun b4 w10 H => ⟨H.f1.row rfl, H.f1.row rfl, ?_⟩
    refine (store_copied_spec hsok H.f2.vw).mono ?_
    rintro e w11 ⟨v, rfl, a2, c2, rfl, H2⟩
    have H := H.frame H2
    refine ⟨_, _, _, _, _, _, _, _, _, rfl, H.f2.row rfl, ?_⟩
    refine Has.st H.f7 (by simp [St.cells]) rfl fun w12 H => ⟨_, _, _, _, _, _, _, _, _, H.row rfl, hsok, by omega, h2, rfl, b4, a2, c2, rfl, ?_⟩
    exact Has.mksto H.drop.f2.drop.f4.drop.b3 rfl
  · refine (store_copied_spec hsok H.f1.vw).mono ?_
    rintro e w10 ⟨v, rfl, a2, c2, rfl, H2⟩
    have H := H.frame H2
    refine ⟨_, _, _, _, _, _, _, _, _, rfl, H.f1.row rfl, ?_⟩
    refine H.al fun b4 w11 H => ⟨H.f2.row rfl, ?_⟩
    refine Has.st H.f7 (by simp [St.cells]) rfl fun w12 H => ⟨_, _, _, _, _, _, _, _, _, H.row rfl, hsok, by omega, h2, rfl, b4, a2, c2, rfl, ?_⟩
    exact Has.mksto H.drop.f2.drop.f4.drop.f1.b3 rfl
theorem store_State_spec (hs : s.ok) (H : Has w0 w (stoB b db n s :: r)) :
    Calls Tryz.prog 18 #[pv b 0] w fun e w' => ∃ v, e = .returned v ∧ ∃ a c, v = s.val a s.l.length c ∧ Has w0 w' (ow 69 4 a s.l.length c (ecs s.l) :: stoB b db n s :: r) := by
  refine store_Store_State.ok _ _ ?_
  obtain ⟨a, c, lb, H⟩ := H.sto
  refine H.al fun b1 w1 H => ⟨_, _, _, _, _, _, _, _, _, fun j v hj => H.f1.cell (by rw [Nat.add_comm, Nat.add_comm 0 1, List.getElem?_cons_succ]; exact hj), ?_⟩
  refine (store_copied_spec hs H.f2.vw).mono ?_
  rintro e w2 ⟨v, rfl, a2, c2, rfl, H2⟩
  have H := H.frame H2
  refine ⟨_, _, _, _, _, _, _, _, _, rfl, Has.st H.f1 (by simp) rfl fun w3 H => ⟨_, _, _, _, _, _, _, _, _, H.row rfl, a2, c2, rfl, ?_⟩⟩
  exact (Has.mksto H.drop.b3 rfl).f1

end
end Go.Proofs.YtbcepafeiocobaaGreat
