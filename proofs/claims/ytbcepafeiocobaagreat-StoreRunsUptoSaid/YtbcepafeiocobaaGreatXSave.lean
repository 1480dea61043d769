/-
  Layer 8 (store): Save, the program's way.
-/
import Derived.Test.YtbcepafeiocobaaGreatXWrites
set_option maxRecDepth 8000
namespace Go.X
open Go

def recs1 (s : St) (t : Nat) (v : Int) : List (List UInt8) := if t = s.term ∧ v = s.vote then [] else [hardB t v]
def recs2 (s : St) (l : List Ent) : List (List UInt8) := match l with | [] => [] | e :: _ => if e.index ≤ (lastE s.snap.index s.snap.term s.l).1 then [cutB e.index] else []
/-- What Save writes. -/
def recsOf (s : St) (t : Nat) (v : Int) (l : List Ent) : List (List UInt8) := recs1 s t v ++ recs2 s l ++ l.map entB

/-- What Save answers; the state, and the disk, then. -/
def save8 (s : St) (d : Dk) (n t : Nat) (v : Int) (l : List Ent) : Nat × St × Dk :=
  match takes s (recsOf s t v l) with
  | none => (1, s, d)
  | some s' => if s'.right = false then (1, s, d) else if recsOf s t v l = [] then (0, s, d)
    else if (d.wappend n (recsOf s t v l)).1 ≠ 0 then ((d.wappend n (recsOf s t v l)).1, s, (d.wappend n (recsOf s t v l)).2) else (0, s', (d.wappend n (recsOf s t v l)).2)

theorem recs_len (s : St) (t : Nat) (v : Int) (l : List Ent) : (recs1 s t v).length ≤ 1 ∧ (recs2 s l).length ≤ 1 ∧ (recsOf s t v l).length ≤ l.length + 2 := by
  have h1 : (recs1 s t v).length ≤ 1 := by unfold recs1; split <;> simp
  have h2 : (recs2 s l).length ≤ 1 := by
    unfold recs2; split
    · simp
    · split <;> simp
  refine ⟨h1, h2, ?_⟩
  simp only [recsOf, List.length_append, List.length_map]; omega

theorem recs_small {s : St} {t : Nat} (ht : t < 18446744073709551616) (v : Int) {l : List Ent} (hl : ∀ e ∈ l, e.ok) : ∀ x ∈ recsOf s t v l, x.length ≤ 4000000100 := by
  intro x hx
  simp only [recsOf, List.mem_append, List.mem_map] at hx
  rcases hx with (hx | hx) | ⟨e, he, rfl⟩
  · unfold recs1 at hx
    split at hx
    · cases hx
    · simp only [List.mem_singleton] at hx; subst hx
      have := hardB_len ht v; omega
  · unfold recs2 at hx
    split at hx
    · cases hx
    · rename_i e l
      split at hx
      · simp only [List.mem_singleton] at hx; subst hx
        have := cutB_len (hl e (.head _)).index; omega
      · cases hx
  · have h1 := entB_len (hl e he)
    have h2 := (hl e he).data
    omega

end Go.X
namespace Go.Proofs.YtbcepafeiocobaaGreat
open Go.X

section
variable {w0 w : World} {r : List A} {L : List (Option Addr × List Value)} {s : St} {d : Dk} {db n b : Nat}

theorem store_Save_spec (hs : s.ok) (hd : d.ok) (hn : n < 16) {t : Nat} (ht : t < 18446744073709551616) {v : Int} (hv : -9223372036854775808 ≤ v ∧ v ≤ 9223372036854775807) {l : List Ent} (hl : ∀ e ∈ l, e.ok) (hlen : s.l.length + l.length + 2 ≤ 1000000000)
    {la : Option Addr} {lc : Nat} (hb : Rb w0 L la (ecs l)) (H : Has w0 w (pl L :: stoB b db n s :: dskB db d :: r)) :
    Calls Tryz.prog 14 #[pv b 0, .agg #[.int .u64 (t : Int), .int .i64 v], .slice la l.length lc] w fun e w' => ∃ x, e = .returned x ∧ x = .int .i64 ((save8 s d n t v l).1 : Int) ∧ Has w0 w' (pl L :: stoB b db n (save8 s d n t v l).2.1 :: dskB db (save8 s d n t v l).2.2 :: r) := by
  refine store_Store_Save.ok _ _ _ _ _ _ _ ?_
  obtain ⟨a, c, lb, H⟩ := H.f1.sto
  refine H.al fun b1 w1 H => ⟨_, _, _, _, _, _, _, _, _, fun j v hj => H.f1.cell (by rw [Nat.add_comm, Nat.add_comm 0 1, List.getElem?_cons_succ]; exact hj), ?_⟩
  refine (store_copied_spec hs H.f2.vw).mono ?_
  rintro e w2 ⟨x, rfl, a2, c2, rfl, H2⟩
  have H := H.frame H2
  clear H2
  refine ⟨_, _, _, _, _, _, _, _, _, rfl, H.al fun b2 w3 H => Has.st H (by simp) rfl fun w4 H => ?_⟩
  obtain ⟨F, hF⟩ : ∃ F, F = ca b 81 (pv lb 0 :: s.cells a s.l.length c) :: ow 69 4 a s.l.length c (ecs s.l) :: ca lb 108 [pv db 0, .int .i64 (n : Int)] :: dskB db d :: r := ⟨_, rfl⟩
  have H : Has w0 w4 (stA 45 69 b2 s :: ca b1 40 [.int .u64 (t : Int), .int .i64 v] :: pl L :: F) := by
    rw [hF]
    have H := Has.mksta (s := s) H rfl
    exact (H.f5).b2
  obtain ⟨q1, q2, q3⟩ := recs_len s t v l
  have hsm := recs_small (s := s) ht v hl
  have back : ∀ {w' : World}, Has w0 w' (pl L :: F) → Has w0 w' (pl L :: stoB b db n s :: dskB db d :: r) := fun H => by
    rw [hF] at H
    exact (Has.mksto H.b3 rfl).f1
  refine ⟨fun oa on oc w' => on = (recs1 s t v).length ∧ Has w0 w' (ow 9 1 oa on oc (ss (recs1 s t v)) :: stA 45 69 b2 s :: ca b1 40 [.int .u64 (t : Int), .int .i64 v] :: pl L :: F), ?_, ?_⟩
  · obtain ⟨a3, c3, H3⟩ := H.sta
    refine ⟨_, _, H.f1.row rfl, _, _, H3.row rfl, _, (eq_hard t s.term v s.vote).2, bif_i (fun h => ?_) fun h => ?_⟩
    · have h : ¬ (t = s.term ∧ v = s.vote) := fun e => by rw [decide_eq_true e] at h; cases h
      refine ⟨_, _, H.f1.row rfl, ?_⟩
      refine (store_hard_spec ht H).mono ?_
      rintro e w5 ⟨x, rfl, rfl, H⟩
      have e1 : recs1 s t v = [hardB t v] := by unfold recs1; rw [if_neg h]
      refine ⟨_, rfl, H.al fun b3 w6 H => ?_⟩
      refine Has.app0 (m := 1) elS H (H.src (vs := [.string (bs (hardB t v))]) elS rfl rfl) (by omega) (by simp [maxLen]) fun a4 c4 w7 H => ?_
      rw [e1]
      exact ⟨rfl, H.f1.drop⟩
    · have h : t = s.term ∧ v = s.vote := by simpa using h
      have e1 : recs1 s t v = [] := by unfold recs1; rw [if_pos h]
      rw [e1]
      exact ⟨rfl, H.mkow0 _ 1⟩
  clear H
  rintro _ oa on oc w5 ⟨rfl, H⟩
  refine ⟨fun oa on oc w' => on = (recs1 s t v ++ recs2 s l).length ∧ Has w0 w' (ow 9 1 oa on oc (ss (recs1 s t v ++ recs2 s l)) :: stA 45 69 b2 s :: ca b1 40 [.int .u64 (t : Int), .int .i64 v] :: pl L :: F), bif_i (fun h => ?_) fun h => ?_, ?_⟩
  · have h : 0 < l.length := by simp at h; omega
    obtain ⟨e0, l0, hl0⟩ : ∃ e0 l0, l = e0 :: l0 := by cases l with
      | nil => simp at h
      | cons e0 l0 => exact ⟨e0, l0, rfl⟩
    obtain ⟨a3, c3, H3⟩ := H.f1.sta
    refine ⟨_, _, _, _, _, _, _, _, _, H3.row rfl, ?_⟩
    refine (store_last_spec hs H3.f1.vw).mono ?_
    rintro e w6 ⟨x, rfl, rfl, H6⟩
    have H := H.frame H6
    obtain ⟨b4, o4, hb4, hc4⟩ := (hb.vw H.f3).entAt (i := 0) (j := 1) h rfl
    have e2 : l[0] = e0 := by simp [hl0]
    have hc4 : World.cell? w6 ⟨b4, o4 + 1, none⟩ = some (.int .u64 (e0.index : Int)) := by rw [← e2]; simpa using hc4
    have hi0 := (hl e0 (by rw [hl0]; simp)).index
    refine ⟨_, _, rfl, b4, o4, hb4, by omega, by omega, _, hc4, bif_i (fun h2 => ?_) fun h2 => ?_⟩
    · have h2 : e0.index ≤ (lastE s.snap.index s.snap.term s.l).1 := by simp at h2; omega
      have e3 : recs2 s l = [cutB e0.index] := by rw [hl0]; unfold recs2; simp only []; rw [if_pos h2]
      refine ⟨b4, o4, hb4, by omega, by omega, _, hc4, ?_⟩
      refine (store_cut_spec hi0 H).mono ?_
      rintro e w7 ⟨x, rfl, rfl, H⟩
      refine ⟨_, rfl, H.al fun b6 w8 H => ?_⟩
      refine Has.app (m := 1) elS H.f1 (H.src (vs := [.string (bs (cutB e0.index))]) elS rfl rfl) (by omega) (by simp [maxLen]; omega) fun a9 c9 w9 H => ?_
      rw [ss_snoc] at H
      rw [e3]
      exact ⟨by simp, H.f1.drop⟩
    · have h2 : ¬ e0.index ≤ (lastE s.snap.index s.snap.term s.l).1 := by simp at h2; omega
      have e3 : recs2 s l = [] := by rw [hl0]; unfold recs2; simp only []; rw [if_neg h2]
      rw [e3, List.append_nil]
      exact ⟨rfl, H⟩
  · have h : l.length = 0 := by simp at h; simp [h]
    have hl0 : l = [] := List.eq_nil_of_length_eq_zero h
    have e3 : recs2 s l = [] := by rw [hl0]; rfl
    rw [e3, List.append_nil]
    exact ⟨rfl, H⟩
  clear H
  rintro _ oa on oc w6 ⟨rfl, H⟩
  refine ⟨fun oa on oc i w' => ∃ k : Nat, i = (k : Int) ∧ k ≤ l.length ∧ on = (recs1 s t v ++ recs2 s l ++ (l.take k).map entB).length ∧ Has w0 w' (ow 9 1 oa on oc (ss (recs1 s t v ++ recs2 s l ++ (l.take k).map entB)) :: stA 45 69 b2 s :: ca b1 40 [.int .u64 (t : Int), .int .i64 v] :: pl L :: F), fun _ _ _ i _ => l.length + 1 - i.toNat, ⟨0, rfl, by omega, by simp, by simpa using H⟩, ?_⟩
  clear H
  rintro _ oa on oc i w7 ⟨k, rfl, hk, rfl, H⟩
  refine bif_i (fun h => ?_) fun h => ?_
  · have h : k < l.length := by simp at h; omega
    obtain ⟨b7, o7, hb7, hr7⟩ := (hb.vw H.f3).ent h
    refine ⟨b7, o7, hb7, by omega, by omega, _, _, _, _, hr7, H.al fun b8 w8 H => Has.st H (by simp) rfl fun w9 H => ⟨_, _, _, _, H.row rfl, ?_⟩⟩
    refine (store_entry_spec (hl _ (List.getElem_mem h)) H.drop).mono ?_
    rintro e w10 ⟨x, rfl, rfl, H⟩
    refine ⟨_, rfl, H.al fun b9 w11 H => ?_⟩
    have hlk : (recs1 s t v ++ recs2 s l ++ (l.take k).map entB).length ≤ l.length + 2 := by simp only [List.length_append, List.length_map, List.length_take]; omega
    refine Has.app (m := 1) elS H.f1 (H.src (vs := [.string (bs (entB l[k]))]) elS rfl rfl) (by omega) (by simp only [maxLen]; omega) fun a12 c12 w12 H => ?_
    rw [ss_snoc] at H
    have e4 : recs1 s t v ++ recs2 s l ++ (l.take k).map entB ++ [entB l[k]] = recs1 s t v ++ recs2 s l ++ (l.take (k + 1)).map entB := by rw [List.take_succ_eq_append_getElem h, List.map_append, ← List.append_assoc]; rfl
    rw [e4] at H
    rw [w64_id (by omega)]
    refine ⟨⟨k + 1, by omega, h, ?_, H.f1.drop⟩, by dsimp only; omega⟩
    rw [← e4]; simp only [List.length_append, List.length_singleton]
  have h : k = l.length := by simp at h; omega
  subst h
  rw [List.take_length] at H ⊢
  have hrec : recs1 s t v ++ recs2 s l ++ l.map entB = recsOf s t v l := rfl
  rw [hrec] at H ⊢
  generalize hR : recsOf s t v l = R at H q3 hsm ⊢
  have htl := fun s' (h : takes s R = some s') => takes_ok R hs (by omega) h
  refine ⟨fun i w' => ∃ (k : Nat) (s' : St), i = (k : Int) ∧ k ≤ R.length ∧ takes s (R.take k) = some s' ∧ Has w0 w' (ow 9 1 oa R.length oc (ss R) :: stA 45 69 b2 s' :: ca b1 40 [.int .u64 (t : Int), .int .i64 v] :: pl L :: F), fun i _ => R.length + 1 - i.toNat, ⟨0, s, rfl, by omega, rfl, H⟩, ?_⟩
  clear H
  rintro _ i w8 ⟨k, s', rfl, hk, hts, H⟩
  have hlt : (R.take k).length = k := by simp; omega
  have hsok := takes_ok (R.take k) hs (by rw [hlt]; omega) hts
  rw [hlt] at hsok
  obtain ⟨hsok, hslen⟩ := hsok
  have hsv : save8 s d n t v l = match takes s R with
      | none => (1, s, d)
      | some s' => if s'.right = false then (1, s, d) else if R = [] then (0, s, d)
        else if (d.wappend n R).1 ≠ 0 then ((d.wappend n R).1, s, (d.wappend n R).2) else (0, s', (d.wappend n R).2) := by unfold save8; rw [hR]
  refine bif_i (fun h => ?_) fun h => ?_
  · have h : k < R.length := by simp at h; omega
    obtain ⟨b3, o3, hb3, hc3⟩ := H.vw.at (by simp; omega)
    refine ⟨b3, o3, hb3, by omega, by omega, _, by rw [Int.toNat_natCast, Nat.mul_one]; exact hc3 k (.string (bs R[k])) (by rw [ss_get?, List.getElem?_eq_getElem h]; rfl), ?_⟩
    have hrl := hsm _ (List.getElem_mem h)
    refine (store_take_spec hsok (by omega) (by omega) H.f1).mono ?_
    rintro e w9 ⟨x, rfl, rfl, H⟩
    have hsplit : R.take k ++ R[k] :: R.drop (k + 1) = R := by rw [← List.drop_eq_getElem_cons h, List.take_append_drop]
    refine ⟨_, rfl, bif_i (fun h2 => ?_) fun h2 => ?_⟩
    · have h2 : take s' R[k] = none := by simpa using h2
      have : takes s R = none := by
        rw [← hsplit, takes_append, hts]
        show (take s' R[k]).bind _ = none
        rw [h2]; rfl
      rw [this] at hsv
      rw [hsv]
      exact ⟨rfl, back H.drop.drop.drop⟩
    · obtain ⟨s2, h2⟩ : ∃ s2, take s' R[k] = some s2 := by
        cases ht : take s' R[k] with
        | none => rw [ht] at h2; simp at h2
        | some t => exact ⟨t, rfl⟩
      rw [h2] at H
      rw [w64_id (by omega)]
      refine ⟨⟨k + 1, s2, by omega, h, ?_, H.f1⟩, by dsimp only; omega⟩
      rw [List.take_succ_eq_append_getElem h, takes_append, hts]
      show (take s' R[k]).bind _ = _
      rw [h2]; rfl
  have h : k = R.length := by simp at h; omega
  subst h
  rw [List.take_length] at hts
  rw [hts] at hsv
  simp only [] at hsv
  obtain ⟨a3, c3, H⟩ := H.f1.sta
  refine ⟨_, _, _, _, _, _, _, _, _, H.row rfl, ?_⟩
  refine (store_right_spec hsok H.f1.vw).mono ?_
  rintro e w9 ⟨x, rfl, rfl, H2⟩
  have H : Has w0 w9 (ca b2 45 (s'.cells a3 s'.l.length c3) :: ow 69 4 a3 s'.l.length c3 (ecs s'.l) :: ow 9 1 oa R.length oc (ss R) :: ca b1 40 [.int .u64 (t : Int), .int .i64 v] :: pl L :: F) := H.frame H2
  clear H2
  refine ⟨_, rfl, bif_i (fun h2 => ?_) fun h2 => ?_⟩
  · have h2 : s'.right = false := by simpa using h2
    rw [if_pos h2] at hsv
    rw [hsv]
    exact ⟨rfl, back H.drop.drop.drop.drop⟩
  have h2 : ¬ s'.right = false := by simpa using h2
  rw [if_neg h2] at hsv
  refine bif_i (fun h3 => ?_) fun h3 => ?_
  · have h3 : R.length = 0 := by simp at h3; simp [h3]
    rw [if_pos (List.eq_nil_of_length_eq_zero h3)] at hsv
    rw [hsv]
    exact ⟨rfl, back H.drop.drop.drop.drop⟩
  have h3 : ¬ R = [] := fun e => by rw [e] at h3; simp at h3
  rw [if_neg h3] at hsv
  rw [hF] at H
  -- the log
  refine ⟨_, _, H.f5.cell rfl, ?_⟩
  have H : Has w0 w9 (ow 9 1 oa R.length oc (ss R) :: logA 108 lb db n :: dskB db d :: ca b2 45 (s'.cells a3 s'.l.length c3) :: ow 69 4 a3 s'.l.length c3 (ecs s'.l) :: pl L :: ca b 81 (pv lb 0 :: s.cells a s.l.length c) :: ow 69 4 a s.l.length c (ecs s.l) :: r) := by
    exact H.f3.drop.f7.f7.f4
  refine (wal_Append_spec hd hn (by omega) H).mono ?_
  rintro e w10 ⟨x, rfl, rfl, H⟩
  refine ⟨_, rfl, bif_i (fun h4 => ?_) fun h4 => ?_⟩
  · have h4 : (d.wappend n R).1 ≠ 0 := by simp at h4; omega
    rw [if_pos h4] at hsv
    rw [hsv]
    refine ⟨rfl, ?_⟩
    exact (Has.mksto H.drop.f2.drop.f2.drop.f3.f4.f1 rfl).f2
  · have h4 : ¬ (d.wappend n R).1 ≠ 0 := by simp at h4; omega
    rw [if_neg h4] at hsv
    rw [hsv]
    refine ⟨_, _, _, _, _, _, _, _, _, H.f3.row rfl, Has.st H.f6 (by simp [St.cells]) rfl fun w11 H => ⟨rfl, ?_⟩⟩
    exact (Has.mksto H.f1.drop.f3.drop.f5.drop.f3.f1 rfl).f2

end
end Go.Proofs.YtbcepafeiocobaaGreat
