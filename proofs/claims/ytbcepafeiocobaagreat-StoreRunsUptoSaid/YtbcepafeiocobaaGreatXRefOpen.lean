/-
  Layer 8 (store): opening, the reference's way; whether two states are the same.
-/
import Derived.Test.YtbcepafeiocobaaGreatXSaid
set_option maxRecDepth 8000
namespace Go.Proofs.YtbcepafeiocobaaGreat
open Go.X

section
variable {w0 w : World} {r : List A} {L : List (Option Addr × List Value)} {s : St} {d : Dk} {db n : Nat}

abbrev dskK (db : Nat) (d : Dk) : A := kdA 36 db d

theorem ref08_Open_spec (hd : d.ok) (hn : n < 16) {m : Nat} (hm : m < 18446744073709551616) (H : Has w0 w (dskK db d :: r)) :
    Calls Tryz.prog 10 #[pv db 0, .int .i64 (n : Int), .int .u64 (m : Int)] w fun e w' => ∃ v, e = .returned v ∧
      match (d.open8 n m).2.1 with
      | none => v = .tuple #[.pointer none, .int .i64 ((d.open8 n m).1 : Int)] ∧ Has w0 w' (dskK db (d.open8 n m).2.2 :: r)
      | some s => ∃ b lb a c L, v = .tuple #[pv b 0, .int .i64 0] ∧ Rb w0 L a (ecs s.l) ∧ Has w0 w' (ca b 55 (pv lb 0 :: s.cells a s.l.length c) :: logA 120 lb db n :: dskK db (d.open8 n m).2.2 :: pl L :: r) := by
  refine tontineref08_Open.ok _ _ _ _ ?_
  refine (ref06_Sound_spec H).mono ?_
  rintro e w1 ⟨v, rfl, rfl, H⟩
  refine ⟨_, rfl, bif_i (fun h => ?_) fun h => ?_⟩
  · have h : sound m = false := by simp [sound] at h ⊢; omega
    have e : d.open8 n m = (1, none, d) := by unfold Dk.open8; rw [if_pos h]
    rw [e]
    exact ⟨rfl, H⟩
  have h : sound m = true := by simp [sound] at h ⊢; omega
  have hne : ¬ sound m = false := by simp [h]
  refine (ref05_Open_spec hd hn H).mono ?_
  rintro e w2 ⟨v, rfl, hcase⟩
  rcases hcase with ⟨h0, bl, al, cl, rfl, H⟩ | ⟨h0, rfl, H⟩
  rotate_left
  · have e : d.open8 n m = ((d.opened n).1, none, (d.opened n).2.2) := by unfold Dk.open8; rw [if_neg hne, if_pos h0]
    rw [e]
    exact .inl ⟨_, _, _, _, rfl, bif_t (by simp; omega) ⟨rfl, H⟩⟩
  refine .inr ⟨_, _, _, _, _, _, rfl, bif_f rfl ?_⟩
  obtain ⟨hr1, hr2⟩ := opened_recs hd hn
  have hop : d.open8 n m = match takes (first8 m) (d.opened n).2.1 with
    | none => (2, none, (d.opened n).2.2)
    | some s => if s.right then (0, some s, (d.opened n).2.2) else (2, none, (d.opened n).2.2) := by unfold Dk.open8; rw [if_neg hne, if_neg (by simp [h0])]; cases takes (first8 m) (d.opened n).2.1 <;> rfl
  clear h0
  generalize (d.opened n).2.1 = recs at H hr1 hr2 hop
  generalize (d.opened n).2.2 = d2 at H hop
  have H' : Has w0 w2 (pl [(al, ss recs)] :: logA 120 bl db n :: dskK db d2 :: r) := H.f1.pl0.f1.plAdd
  refine (ref08_Said_spec hm (L := [(al, ss recs)]) (fun x hx => by have := hr1 x hx; omega) (by omega) Rb.hd H').mono ?_
  rintro e w3 ⟨v, rfl, L, hsub, H, hcase⟩
  cases ht : takes (first8 m) recs with
  | none =>
    rw [ht] at hcase hop
    obtain ⟨s2, a2, n2, c2, rfl⟩ := hcase
    rw [hop]
    exact ⟨_, _, _, _, _, _, _, _, _, ⟨_, rfl, H.al fun b1 w4 H => Has.st H (by simp) rfl fun w5 H => bif_t rfl ⟨rfl, H.drop.drop.drop⟩⟩⟩
  | some s =>
    rw [ht] at hcase hop
    obtain ⟨a2, c2, rfl, hb⟩ := hcase
    simp only [] at hop
    refine ⟨_, _, _, _, _, _, _, _, _, ⟨_, rfl, H.al fun b1 w4 H => Has.st H (by simp) rfl fun w5 H => bif_i (fun h2 => ?_) fun h2 => ?_⟩⟩
    · rw [if_neg (by simpa using h2)] at hop
      rw [hop]
      exact ⟨rfl, H.drop.drop.drop⟩
    · rw [if_pos (by simpa using h2)] at hop
      rw [hop]
      refine ⟨_, _, _, _, _, _, _, _, _, H.row rfl, H.al fun b2 w6 H => ⟨b2, bl, a2, c2, L, rfl, hb, ?_⟩⟩
      exact H.f1.drop.f1.b3

theorem ref08_Same_spec {s t : St} (hs : s.ok) (ht : t.ok) {a b : Option Addr} {c d : Nat} (hv : Vw w a (ecs s.l)) (hw : Vw w b (ecs t.l)) :
    Calls Tryz.prog 28 #[s.val a s.l.length c, t.val b t.l.length d] w fun e w' => ∃ v, e = .returned v ∧ v = .bool (decide ((s.term = t.term ∧ s.vote = t.vote) ∧ s.snap = t.snap ∧ s.l = t.l)) ∧ Has w w' [] := by
  refine tontineref08_Same.ok _ _ _ _ _ _ _ _ _ _ _ _ _ _ _ _ _ _ ?_
  refine (Has.start w).al fun b1 w1 H => H.al fun b2 w2 H => ?_
  refine ⟨_, _, H.f1.row rfl, _, _, H.row rfl, _, (eq_hard s.term t.term s.vote t.vote).1, bif_i (fun h => ?_) fun h => ?_⟩
  rotate_left
  · have h : ¬ (s.term = t.term ∧ s.vote = t.vote) := by simpa using h
    exact ⟨by rw [decide_eq_false (fun e => h e.1)], H.drop.drop⟩
  have h : s.term = t.term ∧ s.vote = t.vote := by simpa using h
  refine ⟨_, _, _, _, H.f1.row rfl, _, _, _, _, H.row rfl, _, eq_snp s.snap t.snap, bif_i (fun h2 => ?_) fun h2 => ?_⟩
  rotate_left
  · have h2 : ¬ s.snap = t.snap := by simpa using h2
    exact ⟨by rw [decide_eq_false (fun e => h2 e.2.1)], H.drop.drop⟩
  have h2 : s.snap = t.snap := by simpa using h2
  refine ⟨_, _, _, H.f1.cell rfl, _, _, _, H.cell rfl, ?_⟩
  refine (ref07_Same_spec hs.len ht.len (hv.old H) (hw.old H)).mono ?_
  rintro e w3 ⟨v, rfl, rfl, H3⟩
  exact ⟨_, rfl, by simp [h, h2], (H.frame H3).drop.drop⟩

theorem law_same_spec {s t : St} (hs : s.ok) (ht : t.ok) {a b : Option Addr} {c d : Nat} (hv : Vw w a (ecs s.l)) (hw : Vw w b (ecs t.l)) :
    Calls Tryz.prog 11 #[s.val a s.l.length c, t.val b t.l.length d] w fun e w' => ∃ v, e = .returned v ∧ v = .bool (decide ((s.term = t.term ∧ s.vote = t.vote) ∧ s.snap = t.snap ∧ s.l = t.l)) ∧ Has w w' [] := by
  refine tontinelaw08_same.ok _ _ _ _ _ _ _ _ _ _ _ _ _ _ _ _ _ _ ?_
  refine (Has.start w).al fun b1 w1 H => H.al fun b2 w2 H => ?_
  refine ⟨_, _, H.f1.row rfl, _, _, _, _, H.f1.row rfl, _, _, _, H.f1.cell rfl, _, _, _, _, _, _, _, _, _, H.row rfl, ?_⟩
  refine (ref08_Same_spec hs ht (hv.old H) (hw.old H)).mono ?_
  rintro e w3 ⟨v, rfl, rfl, H3⟩
  exact ⟨_, rfl, rfl, (H.frame H3).drop.drop⟩

end
end Go.Proofs.YtbcepafeiocobaaGreat
