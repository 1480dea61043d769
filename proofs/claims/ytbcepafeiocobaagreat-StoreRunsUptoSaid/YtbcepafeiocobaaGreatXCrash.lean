/-
  Layer 4: what is left of a disk behind a crash.
-/
import Derived.Test.YtbcepafeiocobaaGreatXDiskB
set_option maxRecDepth 8000
namespace Go.X
open Go

/-- How many bytes that weren't firm are kept. -/
def kept (ks : List Int) (i : Nat) (n : Nat) : Nat := if h : i < ks.length then min ks[i].toNat n else 0
def crashed (ks : List Int) (i : Nat) (x : Fv) : Fv := match x with
  | none => none
  | some p => if p.1 ≠ [] ∨ 0 < kept ks i p.2.length ∨ p.2 = [] then some (p.1 ++ p.2.take (kept ks i p.2.length), []) else none
def Dk.crash (d : Dk) (ks : List Int) : Dk := ⟨fun i => crashed ks i (d.fl i), d.room, -1, false⟩

theorem crash_used (d : Dk) (ks : List Int) : (d.crash ks).used ≤ d.used := by
  have : ∀ n, sumTo (fun i => sz ((d.crash ks).fl i)) n ≤ sumTo (fun i => sz (d.fl i)) n := by
    intro n
    induction n with
    | zero => rw [sumTo_zero, sumTo_zero]; exact Nat.le_refl _
    | succ n ih =>
      rw [sumTo_succ, sumTo_succ]
      have : sz ((d.crash ks).fl n) ≤ sz (d.fl n) := by
        show sz (crashed ks n (d.fl n)) ≤ _
        cases d.fl n with
        | none => exact Nat.le_refl _
        | some p =>
          unfold crashed
          simp only []
          split
          · simp [sz, firm, soft]; omega
          · exact Nat.zero_le _
      omega
  exact this 16

theorem Dk.ok.crash {d : Dk} (h : d.ok) (ks : List Int) : (d.crash ks).ok := ⟨h.room, Nat.le_trans (crash_used d ks) h.used, by simp [Dk.crash]⟩

def is (l : List Int) : List Value := l.map fun x => .int .i64 x

end Go.X
namespace Go.Proofs.YtbcepafeiocobaaGreat
open Go.X

section
variable {w0 w : World} {r : List A} {L : List (Option Addr × List Value)} {d : Dk} {db : Nat}

theorem disk_Crash_spec (hd : d.ok) {ks : List Int} (hks : ks.length ≤ 1000000000) (hki : ∀ x ∈ ks, -9223372036854775808 ≤ x ∧ x ≤ 9223372036854775807) {a : Option Addr} {c : Nat} (hv : ∀ {w' : World} {q : List A}, Has w0 w' (q ++ r) → Vw w' a (is ks)) (H : Has w0 w (pdA 73 db d :: r)) :
    Calls Tryz.prog 19 #[pv db 0, .slice a ks.length c] w fun e w' => ∃ v, e = .returned v ∧ ∃ b, v = pv b 0 ∧ Has w0 w' (pdA 73 b (d.crash ks) :: pdA 73 db d :: r) := by
  refine disk_Disk_Crash.ok _ _ _ _ _ ?_
  obtain ⟨mb, l, hf, H⟩ := H.pd
  refine H.al fun b1 w1 H => ⟨_, H.f1.cell rfl, H.al fun b2 w2 H => ⟨_, H.f2.cell rfl, ?_⟩⟩
  refine Has.rng rfl H.f3 fun it w3 H => ?_
  have H : Has w0 w3 (itA it mb l l :: ca b2 73 [.map (some b1), .int .i64 (d.room : Int), .int .i64 (-1), .bool false] :: mpA b1 [] :: ca db 73 [.map (some mb), .int .i64 (d.room : Int), .int .i64 d.fuel, .bool d.off] :: r) := (H.f2.mp0).b2
  refine ⟨fun w' => ∃ left l2 : List (Int × Value), (left.map (·.1)).Nodup ∧ (∀ p ∈ left, p ∈ l) ∧ Fl l2 (fun i => if (i : Int) ∈ left.map (·.1) then none else (d.crash ks).fl i) ∧
      Has w0 w' (itA it mb l left :: ca b2 73 [.map (some b1), .int .i64 (d.room : Int), .int .i64 (-1), .bool false] :: mpA b1 l2 :: ca db 73 [.map (some mb), .int .i64 (d.room : Int), .int .i64 d.fuel, .bool d.off] :: r), fun w' => mleft w' it, ⟨l, [], hf.nodup, fun _ h => h, ⟨by simp, by simp, fun i => ?_⟩, H⟩, ?_⟩
  · by_cases hm : (i : Int) ∈ l.map (·.1)
    · simp only [if_pos hm]; rfl
    · simp only [if_neg hm]
      have h1 := hf.get i
      have h2 : mget l (i : Int) = none := mget_none fun p hp e => hm (List.mem_map.2 ⟨p, hp, e⟩)
      rw [h2] at h1
      have h3 : d.fl i = none := by
        cases hx : d.fl i with
        | none => rfl
        | some q => rw [hx] at h1; cases h1
      show mget [] _ = (crashed ks i (d.fl i)).map fv
      rw [h3]; rfl
  clear H
  rintro _ w4 ⟨left, l2, hnd, hsub, hf2, H⟩
  have hm0 := H.mleft
  refine H.nx (fun h0 w5 H => ?_) fun p k v q w5 hl hent H => ?_
  · subst h0
    have e : (fun i : Nat => if (i : Int) ∈ ([] : List (Int × Value)).map (·.1) then none else (d.crash ks).fl i) = (d.crash ks).fl := by funext i; simp
    rw [e] at hf2
    refine ⟨b2, rfl, ?_⟩
    have H := H.itEnd
    have H1 := Has.mkpd (d := d.crash ks) hf2 H.f2.f2
    exact (Has.mkpd hf H1.f2.f2.f1).f1
  · obtain ⟨i, x, hi, rfl, hx, rfl⟩ := hf.at (hsub (k, v) (by rw [hl]; simp))
    have hxs := sz_le d.fl hi
    have hsz : sz (d.fl i) = x.1.length + x.2.length := by rw [hx]; rfl
    have hu := hd.used
    have hr := hd.room
    have hs3 : sumTo (fun i => sz (d.fl i)) 16 = d.used := rfl
    have hni : (i : Int) ∉ (p ++ q).map (·.1) := by
      rw [hl] at hnd
      simp only [List.map_append, List.map_cons] at hnd ⊢
      rw [List.nodup_append] at hnd
      obtain ⟨_, h2, h3⟩ := hnd
      rw [List.nodup_cons] at h2
      intro hm
      rcases List.mem_append.1 hm with hm | hm
      · exact h3 _ hm _ (.head _) rfl
      · exact h2.1 hm
    have hnd2 : ((p ++ q).map (·.1)).Nodup := by
      rw [hl] at hnd
      refine hnd.sublist (List.Sublist.map _ ?_)
      exact List.Sublist.append (List.Sublist.refl _) (List.sublist_cons_self _ _)
    have hsub2 : ∀ y ∈ p ++ q, y ∈ l := fun y hy => hsub y (by rw [hl]; simp at hy ⊢; rcases hy with h | h <;> simp [h])
    have hmem : ∀ j : Nat, j ≠ i → ((j : Int) ∈ left.map (·.1) ↔ (j : Int) ∈ (p ++ q).map (·.1)) := fun j hj => by
      rw [hl]
      have : ¬ (j : Int) = (i : Int) := by omega
      simp [this]
    refine ⟨_, _, _, rfl, rfl, _, _, _, hent, H.al fun b3 w6 H => Has.st H (by simp) rfl fun w7 H => ?_⟩
    have hml : ∀ {w' : World} {q' : List A}, Has w0 w' (itA it mb l (p ++ q) :: q') → mleft w' it < mleft w4 it := fun H => by rw [H.mleft, hm0, hl]; simp
    have keep : ∀ {w' : World}, crashed ks i (some x) = none → Has w0 w' (itA it mb l (p ++ q) :: ca b2 73 [.map (some b1), .int .i64 (d.room : Int), .int .i64 (-1), .bool false] :: mpA b1 l2 :: ca db 73 [.map (some mb), .int .i64 (d.room : Int), .int .i64 d.fuel, .bool d.off] :: r) → Fl l2 (fun j => if (j : Int) ∈ (p ++ q).map (·.1) then none else (d.crash ks).fl j) := fun hcr _ => by
      have e : (fun j : Nat => if (j : Int) ∈ (p ++ q).map (·.1) then none else (d.crash ks).fl j) = fun j : Nat => if (j : Int) ∈ left.map (·.1) then none else (d.crash ks).fl j := by
        funext j
        by_cases hj : j = i
        · subst hj
          rw [if_neg hni, if_pos (by rw [hl]; simp)]
          show crashed ks j (d.fl j) = none
          rw [hx]; exact hcr
        · simp only [hmem j hj]
      rw [e]; exact hf2
    have put : ∀ y, crashed ks i (some x) = some y → Fl (mset l2 (i : Int) (fv y)) (fun j => if (j : Int) ∈ (p ++ q).map (·.1) then none else (d.crash ks).fl j) := fun y hcr => by
      have h1 := hf2.upd hi y
      have e : upd (fun j : Nat => if (j : Int) ∈ left.map (·.1) then none else (d.crash ks).fl j) i (some y) = fun j : Nat => if (j : Int) ∈ (p ++ q).map (·.1) then none else (d.crash ks).fl j := by
        funext j
        unfold upd
        by_cases hj : j = i
        · subst hj
          rw [if_pos rfl, if_neg hni]
          show some y = crashed ks j (d.fl j)
          rw [hx, hcr]
        · rw [if_neg hj]; simp only [hmem j hj]
      rw [← e]; exact h1
    have hk0 : kept ks i x.2.length ≤ x.2.length := by unfold kept; split <;> omega
    refine ⟨fun n w' => n = (kept ks i x.2.length : Int) ∧ Has w0 w' (ca b3 99 [.string (bs x.1), .string (bs x.2)] :: itA it mb l (p ++ q) :: ca b2 73 [.map (some b1), .int .i64 (d.room : Int), .int .i64 (-1), .bool false] :: mpA b1 l2 :: ca db 73 [.map (some mb), .int .i64 (d.room : Int), .int .i64 d.fuel, .bool d.off] :: r), bif_i (fun h => ?_) fun h => ?_, ?_⟩
    · have h : i < ks.length := by simp at h; omega
      refine H.dr fun w8 H => ?_
      obtain ⟨b4, o4, hb4, hc4⟩ := (hv (q := [_, _, _, _, _]) H).at (by simp [is]; omega)
      have hki2 := hki _ (List.getElem_mem h)
      refine ⟨b4, o4, hb4, by omega, by omega, _, by rw [Int.toNat_natCast, Nat.mul_one]; exact hc4 i (.int .i64 ks[i]) (by simp [is, h]), _, H.cell rfl, ?_, H⟩
      unfold kept maxV minV
      rw [dif_pos h, bs_size]
      split <;> split <;> omega
    · have h : ¬ i < ks.length := by simp at h; omega
      refine ⟨?_, H⟩
      unfold kept
      rw [dif_neg h]; rfl
    clear H
    rintro _ n w8 ⟨rfl, H⟩
    have hz : (⟨#[]⟩ : ByteArray) = bs [] := rfl
    have fin : (x.1 ≠ [] ∨ 0 < kept ks i x.2.length ∨ x.2 = []) → ∀ {w9 : World}, Has w0 w9 (ca b3 99 [.string (bs x.1), .string (bs x.2)] :: itA it mb l (p ++ q) :: ca b2 73 [.map (some b1), .int .i64 (d.room : Int), .int .i64 (-1), .bool false] :: mpA b1 l2 :: ca db 73 [.map (some mb), .int .i64 (d.room : Int), .int .i64 d.fuel, .bool d.off] :: r) →
        catD (bs x.1) (ByteArray.extract (bs x.2) 0 ((kept ks i x.2.length : Int)).toNat) fun cat => exU Tryz.prog (Instr.mapUpdate 71 (.map (some b1)) (.int .i64 (i : Int)) (.agg #[.string cat, .string ⟨#[]⟩])) (fun w_12 =>
          (∃ left l2 : List (Int × Value), (left.map (·.1)).Nodup ∧ (∀ p ∈ left, p ∈ l) ∧ Fl l2 (fun i => if (i : Int) ∈ left.map (·.1) then none else (d.crash ks).fl i) ∧
            Has w0 w_12 (itA it mb l left :: ca b2 73 [.map (some b1), .int .i64 (d.room : Int), .int .i64 (-1), .bool false] :: mpA b1 l2 :: ca db 73 [.map (some mb), .int .i64 (d.room : Int), .int .i64 d.fuel, .bool d.off] :: r)) ∧ mleft w_12 it < mleft w4 it) w9 := fun hc {w9} H => by
      have hcr : crashed ks i (some x) = some (x.1 ++ x.2.take (kept ks i x.2.length), []) := by unfold crashed; simp only []; rw [if_pos hc]
      have e4 : ByteArray.extract (bs x.2) 0 ((kept ks i x.2.length : Int)).toNat = bs (x.2.take (kept ks i x.2.length)) := by simp
      rw [e4]
      refine catD_bs (by simp; omega) (Has.upd (kt := 3) rfl rfl H.f3 fun w10 H => ?_)
      have H := (H.b3).drop
      exact ⟨⟨p ++ q, _, hnd2, hsub2, put _ hcr, H⟩, hml H⟩
    refine ⟨_, H.cell rfl, ?_⟩
    rw [hz, strEq_bs]
    refine bif_i (fun h => ?_) fun h => ?_
    · have h : x.1 ≠ [] := by simpa using h
      exact H.dr fun w9 H => ⟨_, H.f2.cell rfl, _, H.cell rfl, _, H.cell rfl, by omega, by simp; omega, fin (.inl h) H⟩
    have h : x.1 = [] := by simpa using h
    refine bif_i (fun h2 => ?_) fun h2 => ?_
    · have h2 : 0 < kept ks i x.2.length := by simp at h2; omega
      exact H.dr fun w9 H => ⟨_, H.f2.cell rfl, _, H.cell rfl, _, H.cell rfl, by omega, by simp; omega, fin (.inr (.inl h2)) H⟩
    have h2 : ¬ 0 < kept ks i x.2.length := by simp at h2; omega
    refine ⟨_, H.cell rfl, ?_⟩
    rw [strEq_bs]
    refine bif_i (fun h3 => ?_) fun h3 => ?_
    · have h3 : x.2 = [] := by simpa using h3
      exact H.dr fun w9 H => ⟨_, H.f2.cell rfl, _, H.cell rfl, _, H.cell rfl, by omega, by simp; omega, fin (.inr (.inr h3)) H⟩
    · have h3 : ¬ x.2 = [] := by simpa using h3
      have hcr : crashed ks i (some x) = none := by
        unfold crashed; simp only []; rw [if_neg]
        rintro (e | e | e)
        · exact e h
        · exact h2 e
        · exact h3 e
      have H := H.drop
      exact ⟨⟨p ++ q, _, hnd2, hsub2, keep hcr H, H⟩, hml H⟩

end
end Go.Proofs.YtbcepafeiocobaaGreat
