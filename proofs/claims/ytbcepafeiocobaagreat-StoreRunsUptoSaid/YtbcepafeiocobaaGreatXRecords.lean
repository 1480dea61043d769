/-
  Layer 8 (store): what Save writes, the reference's way; the law's helpers (said, light).
-/
import Derived.Test.YtbcepafeiocobaaGreatXRefOpen
import Derived.Test.YtbcepafeiocobaaGreatXLasts
set_option maxRecDepth 8000
namespace Go.X
open Go

/-- A call of a store: Anew or Save; where its entries lie. -/
structure Cl where
  anew : Bool
  s : St
  a : Option Addr
  c : Nat

def Cl.cells (x : Cl) : List Value := .bool x.anew :: x.s.cells x.a x.s.l.length x.c
def ccs (l : List Cl) : List Value := l.flatMap Cl.cells
def wts (l : List Cl) : Nat := (l.map fun x => wt x.s).sum

theorem wts_take {l : List Cl} {k : Nat} (h : k < l.length) : wts (l.take (k + 1)) = wts (l.take k) + wt (l[k]).s := by
  unfold wts
  rw [List.take_succ_eq_append_getElem h]; simp only [List.map_append, List.sum_append, List.map_cons, List.map_nil, List.sum_cons, List.sum_nil, Nat.add_zero]
theorem wts_take_le (l : List Cl) (k : Nat) : wts (l.take k) ≤ wts l := by
  have : wts l = wts (l.take k) + wts (l.drop k) := by
    unfold wts
    rw [← List.sum_append, ← List.map_append, List.take_append_drop]
  omega
theorem dw_take {l : List Ent} {k : Nat} (h : k < l.length) : dw (l.take (k + 1)) = dw (l.take k) + (l[k]).data.length / 50 := by
  unfold dw
  rw [List.take_succ_eq_append_getElem h]; simp only [List.map_append, List.sum_append, List.map_cons, List.map_nil, List.sum_cons, List.sum_nil, Nat.add_zero]
theorem dw_take_le (l : List Ent) (k : Nat) : dw (l.take k) ≤ dw l := by
  have : dw l = dw (l.take k) + dw (l.drop k) := by rw [← dw_append, List.take_append_drop]
  omega

/-- The i-th of rows of the same length. -/
theorem flat_get {α : Type} {f : α → List Value} {n : Nat} (hf : ∀ x, (f x).length = n) : ∀ {l : List α} {i : Nat} (h : i < l.length) (j : Nat), j < n → (l.flatMap f)[i * n + j]? = (f l[i])[j]?
  | x :: l, 0, _, j, hj => by
    rw [List.flatMap_cons, List.getElem?_append_left (by rw [hf]; omega)]; simp
  | x :: l, i + 1, h, j, hj => by
    have h' : i < l.length := by simpa using h
    have e : (i + 1) * n + j = (f x).length + (i * n + j) := by rw [hf, Nat.add_mul]; omega
    rw [List.flatMap_cons, e, List.getElem?_append_right (by omega), Nat.add_sub_cancel_left, flat_get hf h' j hj]; simp

theorem Vw.rowAt {α : Type} {f : α → List Value} {n : Nat} (hf : ∀ x, (f x).length = n) {w : World} {a : Option Addr} {l : List α} (h : Vw w a (l.flatMap f)) (hn : 0 < n) {i : Nat} (hi : i < l.length) :
    ∃ b o, a = some ⟨b, o, none⟩ ∧ rdRow w b (o + ((i : Int)).toNat * n) (f l[i]) := by
  have hlen : (l.flatMap f).length = l.length * n := by
    clear h hi
    induction l with
    | nil => simp
    | cons x l ih => rw [List.flatMap_cons, List.length_append, ih, hf, List.length_cons, Nat.add_mul]; omega
  have hp : 0 < l.length * n := Nat.mul_pos (by omega) hn
  obtain ⟨b, o, rfl, hc⟩ := h.at (by rw [hlen]; exact hp)
  refine ⟨b, o, rfl, fun j v hj => ?_⟩
  have hj2 : j < n := by
    have := (List.getElem?_eq_some_iff.1 hj).1
    rw [hf] at this; exact this
  rw [Int.toNat_natCast, Nat.add_assoc]
  exact hc _ _ (by rw [flat_get hf hi j hj2]; exact hj)

theorem Cl.cells_len (x : Cl) : x.cells.length = 8 := rfl

end Go.X
namespace Go.Proofs.YtbcepafeiocobaaGreat
open Go.X

section
variable {w0 w : World} {r : List A} {L : List (Option Addr × List Value)} {s : St}

/-- What the reference's Records answers. -/
def recsR (w0 w' : World) (r : List A) (L : List (Option Addr × List Value)) (out : List (List UInt8)) (t : Option St) (v : Value) : Prop :=
  ∃ L', (∀ p ∈ L, p ∈ L') ∧ Has w0 w' (pl L' :: r) ∧ match t with
    | some s => ∃ oa oc a c, v = .tuple #[.slice oa out.length oc, s.val a s.l.length c, .bool s.right] ∧ out.length ≤ oc ∧ oc ≤ maxLen ∧ Rb w0 L' oa (ss out) ∧ Rb w0 L' a (ecs s.l)
    | none => ∃ (s : St) (a : Option Addr) (n c : Nat), v = .tuple #[.slice none 0 0, s.val a n c, .bool false]

theorem ref08_Records_spec (hs : s.ok) {t : Nat} (ht : t < 18446744073709551616) {v : Int} {l : List Ent} (hl : ∀ e ∈ l, e.ok) (hlen : s.l.length + l.length + 2 ≤ 1000000000)
    {sa : Option Addr} {sc : Nat} (hbs : Rb w0 L sa (ecs s.l)) {la : Option Addr} {lc : Nat} (hb : Rb w0 L la (ecs l)) (H : Has w0 w (pl L :: r)) :
    Calls Tryz.prog 41 #[s.val sa s.l.length sc, .agg #[.int .u64 (t : Int), .int .i64 v], .slice la l.length lc] w fun e w' => ∃ x, e = .returned x ∧ recsR w0 w' r L (recsOf s t v l) (takes s (recsOf s t v l)) x := by
  refine tontineref08_Records.ok _ _ _ _ _ _ _ _ _ _ _ _ _ _ ?_
  have hslen := hs.len
  obtain ⟨q1, q2, q3⟩ := recs_len s t v l
  have hsm := recs_small (s := s) ht v hl
  refine H.al fun b1 w1 H => H.al fun b2 w2 H => H.al fun b3 w3 H => ?_
  obtain ⟨F, hF⟩ : ∃ F, F = ca b2 40 [.int .u64 (t : Int), .int .i64 v] :: ca b3 53 (zero8.cells none 0 0) :: r := ⟨_, rfl⟩
  have H : Has w0 w3 (ca b1 53 (s.cells sa s.l.length sc) :: pl L :: F) := by rw [hF]; exact H.f1.f3.f3
  refine ⟨fun oa on oc w' => on = (recs1 s t v).length ∧ Has w0 w' (ow 9 1 oa on oc (ss (recs1 s t v)) :: ca b1 53 (s.cells sa s.l.length sc) :: pl L :: F), ?_, ?_⟩
  · have Hh : ∀ {w' : World} {q : List A}, Has w0 w' (ca b1 53 (s.cells sa s.l.length sc) :: pl L :: F) → rdRow w' b2 0 [.int .u64 (t : Int), .int .i64 v] := fun H => by rw [hF] at H; exact H.f2.row rfl
    refine ⟨_, _, Hh (q := []) H, _, _, H.row rfl, _, (eq_hard t s.term v s.vote).2, bif_i (fun h => ?_) fun h => ?_⟩
    · have h : ¬ (t = s.term ∧ v = s.vote) := fun e => by rw [decide_eq_true e] at h; cases h
      refine ⟨_, _, Hh (q := []) H, ?_⟩
      refine (ref08_Hard_spec ht H).mono ?_
      rintro e w5 ⟨x, rfl, rfl, H⟩
      have e1 : recs1 s t v = [hardB t v] := by unfold recs1; rw [if_neg h]
      refine ⟨_, rfl, H.al fun b4 w6 H => ?_⟩
      refine Has.app0 (m := 1) elS H (H.src (vs := [.string (bs (hardB t v))]) elS rfl rfl) (by omega) (by simp [maxLen]) fun a4 c4 w7 H => ?_
      rw [e1]
      exact ⟨rfl, H.f1.drop⟩
    · have h : t = s.term ∧ v = s.vote := by simpa using h
      have e1 : recs1 s t v = [] := by unfold recs1; rw [if_pos h]
      rw [e1]
      exact ⟨rfl, H.mkow0 _ 1⟩
  clear H
  rintro _ oa on oc w4 ⟨rfl, H⟩
  refine ⟨_, H.f1.cell rfl, ?_⟩
  refine ⟨fun i w' => i = ((lastE s.snap.index s.snap.term s.l).1 : Int) ∧ Has w0 w' (ow 9 1 oa (recs1 s t v).length oc (ss (recs1 s t v)) :: ca b1 53 (s.cells sa s.l.length sc) :: pl L :: F), ?_, ?_⟩
  · refine ⟨_, _, _, H.f1.cell rfl, bif_i (fun h => ?_) fun h => ?_⟩
    · have h : 0 < s.l.length := by simp at h; omega
      have e1 : w64 ((s.l.length : Int) - 1) = ((s.l.length - 1 : Nat) : Int) := by rw [w64_id (by omega)]; omega
      simp only [e1]
      have hlast : s.l.getLast? = some s.l[s.l.length - 1] := by rw [List.getLast?_eq_getElem?, List.getElem?_eq_getElem]
      obtain ⟨b5, o5, hb5, hc5⟩ := (hbs.vw H.f2).entAt (i := s.l.length - 1) (j := 1) (by omega) rfl
      refine ⟨_, _, _, H.f1.cell rfl, _, _, _, H.f1.cell rfl, ?_⟩
      simp only [e1]
      refine ⟨b5, o5, hb5, by omega, by omega, _, hc5, ?_, H⟩
      unfold lastE
      rw [hlast]
    · have h : s.l.length = 0 := by simp at h; simp [h]
      have hl0 : s.l = [] := List.eq_nil_of_length_eq_zero h
      refine ⟨?_, H⟩
      rw [hl0]; rfl
  clear H
  rintro _ i w5 ⟨rfl, H⟩
  refine ⟨fun oa on oc w' => on = (recs1 s t v ++ recs2 s l).length ∧ Has w0 w' (ow 9 1 oa on oc (ss (recs1 s t v ++ recs2 s l)) :: ca b1 53 (s.cells sa s.l.length sc) :: pl L :: F), bif_i (fun h => ?_) fun h => ?_, ?_⟩
  · have h : 0 < l.length := by simp at h; omega
    obtain ⟨e0, l0, hl0⟩ : ∃ e0 l0, l = e0 :: l0 := by cases l with
      | nil => simp at h
      | cons e0 l0 => exact ⟨e0, l0, rfl⟩
    obtain ⟨b4, o4, hb4, hc4⟩ := (hb.vw H.f2).entAt (i := 0) (j := 1) h rfl
    have e2 : l[0] = e0 := by simp [hl0]
    have hc4 : World.cell? w5 ⟨b4, o4 + 1, none⟩ = some (.int .u64 (e0.index : Int)) := by rw [← e2]; simpa using hc4
    have hi0 := (hl e0 (by rw [hl0]; simp)).index
    refine ⟨b4, o4, hb4, by omega, by omega, _, hc4, bif_i (fun h2 => ?_) fun h2 => ?_⟩
    · have h2 : e0.index ≤ (lastE s.snap.index s.snap.term s.l).1 := by simp at h2; omega
      have e3 : recs2 s l = [cutB e0.index] := by rw [hl0]; unfold recs2; simp only []; rw [if_pos h2]
      refine ⟨b4, o4, hb4, by omega, by omega, _, hc4, ?_⟩
      refine (ref08_Cut_spec hi0 H).mono ?_
      rintro e w7 ⟨x, rfl, rfl, H⟩
      refine ⟨_, rfl, H.al fun b6 w8 H => ?_⟩
      refine Has.app (m := 1) elS H.f1 (H.src (vs := [.string (bs (cutB e0.index))]) elS rfl rfl) (by omega) (by simp [maxLen]; omega) fun a9 c9 w9 H => ?_
      rw [ss_snoc] at H
      rw [e3]
      exact ⟨by simp, H.f1.drop⟩
    · have h2 : ¬ e0.index ≤ (lastE s.snap.index s.snap.term s.l).1 := by simp at h2; omega
      have e3 : recs2 s l = [] := by rw [hl0]; unfold recs2; simp only []; rw [if_neg h2]
      rw [e3, List.append_nil]
      exact ⟨rfl, H⟩
  · have h : l.length = 0 := by simp at h; simp [h]
    have hl0 : l = [] := List.eq_nil_of_length_eq_zero h
    have e3 : recs2 s l = [] := by rw [hl0]; rfl
    rw [e3, List.append_nil]
    exact ⟨rfl, H⟩
  clear H
  rintro _ oa on oc w6 ⟨rfl, H⟩
  refine ⟨fun oa on oc i w' => ∃ k : Nat, i = (k : Int) ∧ k ≤ l.length ∧ on = (recs1 s t v ++ recs2 s l ++ (l.take k).map entB).length ∧ Has w0 w' (ow 9 1 oa on oc (ss (recs1 s t v ++ recs2 s l ++ (l.take k).map entB)) :: ca b1 53 (s.cells sa s.l.length sc) :: pl L :: F), fun _ _ _ i _ => l.length + 1 - i.toNat, ⟨0, rfl, by omega, by simp, by simpa using H⟩, ?_⟩
  clear H
  rintro _ oa on oc i w7 ⟨k, rfl, hk, rfl, H⟩
  refine bif_i (fun h => ?_) fun h => ?_
  · have h : k < l.length := by simp at h; omega
    obtain ⟨b7, o7, hb7, hr7⟩ := (hb.vw H.f2).ent h
    refine ⟨b7, o7, hb7, by omega, by omega, _, _, _, _, hr7, ?_⟩
    refine (ref08_Entry_spec (hl _ (List.getElem_mem h)) H).mono ?_
    rintro e w10 ⟨x, rfl, rfl, H⟩
    refine ⟨_, rfl, H.al fun b9 w11 H => ?_⟩
    have hlk : (recs1 s t v ++ recs2 s l ++ (l.take k).map entB).length ≤ l.length + 2 := by simp only [List.length_append, List.length_map, List.length_take]; omega
    refine Has.app (m := 1) elS H.f1 (H.src (vs := [.string (bs (entB l[k]))]) elS rfl rfl) (by omega) (by simp only [maxLen]; omega) fun a12 c12 w12 H => ?_
    rw [ss_snoc] at H
    have e4 : recs1 s t v ++ recs2 s l ++ (l.take k).map entB ++ [entB l[k]] = recs1 s t v ++ recs2 s l ++ (l.take (k + 1)).map entB := by rw [List.take_succ_eq_append_getElem h, List.map_append, ← List.append_assoc]; rfl
    rw [e4] at H
    rw [w64_id (by omega)]
    refine ⟨⟨k + 1, by omega, h, ?_, H.f1.drop⟩, by dsimp only; omega⟩
    rw [← e4]; simp only [List.length_append, List.length_singleton]
  have h : k = l.length := by simp at h; omega
  subst h
  rw [List.take_length] at H ⊢
  have hrec : recs1 s t v ++ recs2 s l ++ l.map entB = recsOf s t v l := rfl
  rw [hrec] at H ⊢
  generalize hR : recsOf s t v l = R at H q3 hsm ⊢
  obtain ⟨hol1, hol2, hol3⟩ := H.owLen
  have H := H.f2.f1.plAdd
  generalize hL1 : (oa, ss R) :: L = L1 at H
  have hsub1 : ∀ p ∈ L, p ∈ L1 := fun p hp => by rw [← hL1]; exact .tail _ hp
  have hbo : Rb w0 L1 oa (ss R) := by rw [← hL1]; exact Rb.hd
  refine ⟨fun i w' => ∃ (k : Nat) (s' : St) (a : Option Addr) (c : Nat) (L' : List (Option Addr × List Value)), i = (k : Int) ∧ k ≤ R.length ∧ takes s (R.take k) = some s' ∧ (∀ p ∈ L1, p ∈ L') ∧ Rb w0 L' a (ecs s'.l) ∧
      Has w0 w' (ca b1 53 (s'.cells a s'.l.length c) :: pl L' :: F), fun i _ => R.length + 1 - i.toNat, ⟨0, s, sa, sc, L1, rfl, by omega, rfl, fun _ h => h, hbs.mono hsub1, H.f1⟩, ?_⟩
  clear H
  rintro _ i w8 ⟨k, s', aS, cS, L', rfl, hk, hts, hsub, hbS, H⟩
  have hlt : (R.take k).length = k := by simp; omega
  have hsok := takes_ok (R.take k) hs (by rw [hlt]; omega) hts
  rw [hlt] at hsok
  obtain ⟨hsok, hslen'⟩ := hsok
  have hsub' : ∀ p ∈ L, p ∈ L' := fun p hp => hsub p (hsub1 p hp)
  refine bif_i (fun h => ?_) fun h => ?_
  · have h : k < R.length := by simp at h; omega
    have hrl := hsm _ (List.getElem_mem h)
    have hsplit : R.take k ++ R[k] :: R.drop (k + 1) = R := by rw [← List.drop_eq_getElem_cons h, List.take_append_drop]
    have hnone : take s' R[k] = none → takes s R = none := fun h2 => by
      rw [← hsplit, takes_append, hts]
      show (take s' R[k]).bind _ = none
      rw [h2]; rfl
    have hsome : ∀ {s2}, take s' R[k] = some s2 → takes s (R.take (k + 1)) = some s2 := fun h2 => by
      rw [List.take_succ_eq_append_getElem h, takes_append, hts]
      show (take s' R[k]).bind _ = _
      rw [h2]; rfl
    refine H.dr fun w6 H => ?_
    obtain ⟨b4, o4, hb4, hc4⟩ := ((hbo.mono hsub).vw H.f1).at (by simp; omega)
    have hcell : ∀ {w' : World} {q : List A}, Has w0 w' (pl L' :: q) → w'.cell? ⟨b4, o4 + ((k : Int)).toNat * 1, none⟩ = some (.string (bs R[k])) := fun {w' q} H' => by
      obtain ⟨b3', o3', hb3', hc3'⟩ := ((hbo.mono hsub).vw H').at (by simp; omega)
      rw [hb4] at hb3'
      simp only [Option.some.injEq, Addr.mk.injEq] at hb3'
      obtain ⟨rfl, rfl, _⟩ := hb3'
      rw [Int.toNat_natCast, Nat.mul_one]; exact hc3' k (.string (bs R[k])) (by rw [ss_get?, List.getElem?_eq_getElem h]; rfl)
    refine ⟨_, _, _, _, _, _, _, _, _, H.row rfl, b4, o4, hb4, by omega, by omega, _, hcell H.f1, ?_, ?_⟩
    · refine (ref08_take_spec hsok (by omega) (by omega) hbS H.f1).mono ?_
      rintro e w7 ⟨v, rfl, L2, hsub2, H, hcase⟩
      rw [hF] at H
      cases htk : take s' R[k] with
      | none =>
        rw [htk] at hcase
        obtain ⟨s2, a2, n2, c2, rfl⟩ := hcase
        refine ⟨_, _, _, _, _, _, _, _, _, ⟨_, rfl, H.al fun b5 w8 H => Has.st H (by simp) rfl fun w9 H => bif_t rfl ?_⟩⟩
        refine Has.st H.f4 (by simp [St.cells, zero8]) rfl fun w10 H => ⟨_, _, _, _, _, _, _, _, _, H.row rfl, ?_⟩
        rw [hnone htk]
        exact ⟨L2, fun p hp => hsub2 p (hsub' p hp), H.drop.drop.f1.drop.f1.drop, zero8, none, 0, 0, rfl⟩
      | some s2 =>
        rw [htk] at hcase
        obtain ⟨a2, c2, rfl, hb2⟩ := hcase
        refine ⟨_, _, _, _, _, _, _, _, _, ⟨_, rfl, H.al fun b5 w8 H => Has.st H (by simp) rfl fun w9 H => bif_f rfl ?_⟩⟩
        refine ⟨_, _, _, _, _, _, _, _, _, H.row rfl, Has.st H.f2 (by simp [St.cells]) rfl fun w10 H => ?_⟩
        rw [w64_id (by omega), hF]
        exact ⟨⟨k + 1, s2, a2, c2, L2, by omega, h, hsome htk, fun p hp => hsub2 p (hsub p hp), hb2, H.f1.drop⟩, by dsimp only; omega⟩
    · refine H.al fun b5 w7 H => ⟨hcell H.f2, H.f1.row rfl, ?_⟩
      refine (ref08_take_spec hsok (by omega) (by omega) hbS H.f2).mono ?_
      rintro e w8 ⟨v, rfl, L2, hsub2, H, hcase⟩
      rw [hF] at H
      cases htk : take s' R[k] with
      | none =>
        rw [htk] at hcase
        obtain ⟨s2, a2, n2, c2, rfl⟩ := hcase
        refine ⟨_, _, _, _, _, _, _, _, _, ⟨_, rfl, Has.st H.f1 (by simp) rfl fun w9 H => bif_t rfl ?_⟩⟩
        refine Has.st H.f4 (by simp [St.cells, zero8]) rfl fun w10 H => ⟨_, _, _, _, _, _, _, _, _, H.row rfl, ?_⟩
        rw [hnone htk]
        exact ⟨L2, fun p hp => hsub2 p (hsub' p hp), H.drop.drop.f1.drop.f1.drop, zero8, none, 0, 0, rfl⟩
      | some s2 =>
        rw [htk] at hcase
        obtain ⟨a2, c2, rfl, hb2⟩ := hcase
        refine ⟨_, _, _, _, _, _, _, _, _, ⟨_, rfl, Has.st H.f1 (by simp) rfl fun w9 H => bif_f rfl ?_⟩⟩
        refine ⟨_, _, _, _, _, _, _, _, _, H.row rfl, Has.st H.f2 (by simp [St.cells]) rfl fun w10 H => ?_⟩
        rw [w64_id (by omega), hF]
        exact ⟨⟨k + 1, s2, a2, c2, L2, by omega, h, hsome htk, fun p hp => hsub2 p (hsub p hp), hb2, H.f1.drop⟩, by dsimp only; omega⟩
  · have h : k = R.length := by simp at h; omega
    subst h
    rw [List.take_length] at hts
    rw [hts]
    refine H.dr fun w6 H => ⟨_, _, _, _, _, _, _, _, _, H.row rfl, _, _, _, _, _, _, _, _, _, H.row rfl, ?_⟩
    refine (ref08_Right_spec hsok (hbS.vw H.f1)).mono ?_
    rintro e w7 ⟨v, rfl, rfl, H2⟩
    have H : Has w0 w7 (ca b1 53 (s'.cells aS s'.l.length cS) :: pl L' :: F) := H.frame H2
    have hrow : rdRow w7 b1 0 (s'.cells aS s'.l.length cS) := H.row rfl
    rw [hF] at H
    refine ⟨_, rfl, hrow, Has.st (T := 53) (vs := zero8.cells none 0 0) H.f3 (by simp [St.cells, zero8]) rfl fun w8 H => ⟨_, _, _, _, _, _, _, _, _, H.row rfl, L', hsub', H.drop.drop.f1.drop, oa, oc, aS, cS, rfl, hol2, hol3, hbo.mono hsub, hbS⟩⟩

end
end Go.Proofs.YtbcepafeiocobaaGreat
