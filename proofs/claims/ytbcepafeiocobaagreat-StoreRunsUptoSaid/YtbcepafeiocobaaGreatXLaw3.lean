/-
  StoreRuns, walked: it answers true, whatever comes.
-/
import Derived.Test.YtbcepafeiocobaaGreatXRefSave
import Derived.Test.YtbcepafeiocobaaGreatXLight
import Derived.Test.YtbcepafeiocobaaGreatXBegun
set_option maxRecDepth 8000
namespace Go.X
open Go

theorem fuelled_ok {d : Dk} (h : d.ok) {n : Int} (hn : -9223372036854775808 ≤ n ∧ n ≤ 9223372036854775807) : (d.fuelled n).ok := ⟨h.room, h.used, by
  show -1 ≤ maxV n (-1) ∧ maxV n (-1) ≤ _
  unfold maxV; split <;> omega⟩

theorem Dk.ok.open8 {d : Dk} (h : d.ok) {n : Nat} (hn : n < 16) (m : Nat) : (d.open8 n m).2.2.ok := by
  unfold Dk.open8
  split
  · exact h
  · split
    · exact h.opened hn
    · split
      · exact h.opened hn
      · split
        · exact h.opened hn
        · exact h.opened hn

theorem save8_ok {s : St} {d : Dk} (hs : s.ok) (hd : d.ok) {n : Nat} (hn : n < 16) {t : Nat} {v : Int} {l : List Ent} (hlen : s.l.length + l.length + 2 ≤ 1000000000) :
    (save8 s d n t v l).2.1.ok ∧ (save8 s d n t v l).2.1.l.length ≤ s.l.length + l.length + 2 ∧ (save8 s d n t v l).2.2.ok := by
  obtain ⟨q1, q2, q3⟩ := recs_len s t v l
  unfold save8
  cases ht : takes s (recsOf s t v l) with
  | none => exact ⟨hs, by dsimp only; omega, hd⟩
  | some s' =>
    have h := takes_ok (recsOf s t v l) hs (by omega) ht
    dsimp only
    split
    · exact ⟨hs, by dsimp only; omega, hd⟩
    · split
      · exact ⟨hs, by dsimp only; omega, hd⟩
      · split
        · exact ⟨hs, by dsimp only; omega, hd.wappend hn _⟩
        · exact ⟨h.1, by dsimp only; omega, hd.wappend hn _⟩

theorem anew8_ok {old s : St} {d : Dk} (ho : old.ok) (hs : s.ok) (hd : d.ok) {n : Nat} (hn : n < 16) :
    (anew8 old d n s).2.1.ok ∧ (anew8 old d n s).2.1.l.length ≤ old.l.length + s.l.length ∧ (anew8 old d n s).2.2.ok := by
  unfold anew8
  split
  · exact ⟨ho, by dsimp only; omega, hd⟩
  · split
    · exact ⟨ho, by dsimp only; omega, hd.wanew hn _⟩
    · exact ⟨hs, by dsimp only; omega, hd.wanew hn _⟩

end Go.X
namespace Go.Proofs.YtbcepafeiocobaaGreat
open Go.X

theorem StoreRuns_spec {w : World} {la : Option Addr} {lc : Nat} {l : List Cl} (hl : Cls w la l) {fuel : Int} (hf : -9223372036854775808 ≤ fuel ∧ fuel ≤ 9223372036854775807) :
    Calls Tryz.prog 3 #[.int .i64 fuel, .slice la l.length lc] w fun e w' => ∃ v, e = .returned v ∧ v = .bool true ∧ Has w w' [] := by
  refine tontinelaw08_StoreRuns.ok _ _ _ _ ?_
  refine begun_spec.mono ?_
  rintro e w1 ⟨v, rfl, rfl, H⟩
  refine ⟨_, rfl, bif_f rfl ?_⟩
  have hl1 : Cls w1 la l := ⟨hl.vw.old H, fun x hx => ⟨(hl.ok x hx).1, (hl.ok x hx).2.old H⟩, hl.len⟩
  refine (law_light_spec hl1).mono ?_
  rintro e w2 ⟨v, rfl, rfl, H2⟩
  have H : Has w w2 [] := H.frame H2
  clear H2 hl1
  refine ⟨_, rfl, bif_i (fun h => ?_) fun h => ?_⟩
  · exact ⟨rfl, H⟩
  have hW : wts l ≤ 400 := by simpa using h
  clear h
  have hlen := hl.len
  refine (disk_New_spec (room := 60000) (by omega) H).mono ?_
  rintro e w3 ⟨v, rfl, db, rfl, H⟩
  refine ⟨_, _, _, rfl, ?_⟩
  refine (ref04_New_spec (room := 60000) (by omega) H).mono ?_
  rintro e w4 ⟨v, rfl, kb, rfl, H⟩
  refine ⟨_, _, _, rfl, ?_⟩
  have hok0 : (Dk.new 60000).ok := Dk.new_ok (by omega)
  refine (disk_Fuel_spec (n := fuel) H.f1).mono ?_
  rintro e w5 ⟨v, rfl, rfl, H⟩
  refine ⟨rfl, ?_⟩
  refine Has.st H.f1 (by rw [rc_len]; simp) rfl fun w6 H => ?_
  rw [rs4 1] at H
  have H : Has w w6 (kdA 36 kb ((Dk.new 60000).fuelled fuel) :: pdA 73 db ((Dk.new 60000).fuelled fuel) :: []) := H
  have hok1 := fuelled_ok hok0 hf
  generalize (Dk.new 60000).fuelled fuel = d at H hok1
  clear hok0
  refine (store_Open_spec (n := 1) (m := 7) hok1 (by omega) (by omega) H.f1).mono ?_
  rintro e w7 ⟨v, rfl, hcase⟩
  cases ho : (d.open8 1 7).2.1 with
  | none =>
    rw [ho] at hcase
    obtain ⟨hne, rfl, H⟩ := hcase
    refine .inl ⟨_, _, _, _, _, _, _, _, _, _, rfl, H.al fun b2 w8 H => Has.st H (by simp) rfl fun w9 H => ?_⟩
    refine (ref08_Open_spec (n := 1) (m := 7) hok1 (by omega) (by decide) H.f2).mono ?_
    rintro e w10 ⟨v, rfl, hcase2⟩
    rw [ho] at hcase2
    obtain ⟨rfl, H⟩ := hcase2
    exact .inl ⟨_, rfl, bif_t (by simp; omega) (bif_t (by simp) ⟨rfl, H.cut 3⟩)⟩
  | some s =>
    rw [ho] at hcase
    obtain ⟨hs, hsl, _, h0, b, a, c, rfl, H⟩ := hcase
    refine .inr ⟨_, _, _, _, _, _, _, _, _, _, _, _, rfl, H.al fun b2 w8 H => Has.st H (by simp) rfl fun w9 H => ?_⟩
    refine (ref08_Open_spec (n := 1) (m := 7) hok1 (by omega) (by decide) H.f4).mono ?_
    rintro e w10 ⟨v, rfl, hcase2⟩
    rw [ho] at hcase2
    obtain ⟨rb, lb, a2, c2, L, rfl, hb, H⟩ := hcase2
    have row : ∀ {w' : World} {q : List A} {s : St} {a : Option Addr} {c : Nat}, Has w w' (ca rb 55 (pv lb 0 :: s.cells a s.l.length c) :: q) → rdRow w' rb (0 + 1) (s.cells a s.l.length c) := fun H j v hj => H.cell (by rw [Nat.add_comm, Nat.add_comm 0 1, List.getElem?_cons_succ]; exact hj)
    refine .inr ⟨_, _, _, rfl, bif_f rfl (bif_f rfl (H.dr fun w11 H => ⟨_, _, _, _, _, _, _, _, _, H.f4.row rfl, _, _, _, _, _, _, _, _, _, row H, ?_⟩))⟩
    refine (law_same_spec hs hs H.f6.vw (hb.vw H.f3)).mono ?_
    rintro e w12 ⟨v, rfl, rfl, H2⟩
    have H := H.frame H2
    refine ⟨_, rfl, bif_f (by simp) ?_⟩
    have hok2 := hok1
    have hd2 : (d.open8 1 7).2.2.ok := hok1.open8 (by omega) 7
    have H : Has w w12 (pl L :: ca rb 55 (pv lb 0 :: s.cells a2 s.l.length c2) :: logA 120 lb kb 1 :: kdA 36 kb (d.open8 1 7).2.2 :: stoB b db 1 s :: pdA 73 db (d.open8 1 7).2.2 :: []) := (H.rm [4, 6]).ro [3, 0, 1, 2]
    generalize (d.open8 1 7).2.2 = d2 at H hd2
    clear ho hok1 hok2 h0
    refine ⟨fun i w' => ∃ (k : Nat) (s : St) (d : Dk) (L : List (Option Addr × List Value)) (a2 : Option Addr) (c2 : Nat), i = (k : Int) ∧ k ≤ l.length ∧ s.ok ∧ d.ok ∧ s.l.length ≤ 1048576 + 3 * wts (l.take k) ∧ Rb w L a2 (ecs s.l) ∧
      Has w w' (pl L :: ca rb 55 (pv lb 0 :: s.cells a2 s.l.length c2) :: logA 120 lb kb 1 :: kdA 36 kb d :: stoB b db 1 s :: pdA 73 db d :: []), fun i _ => l.length + 1 - i.toNat, ⟨0, s, d2, L, a2, c2, rfl, by omega, hs, hd2, by omega, hb, H⟩, ?_⟩
    clear H hb hs hsl hd2
    rintro _ i w13 ⟨k, s, d, L, a2, c2, rfl, hk, hs, hd, hsl, hb, H⟩
    refine bif_i (fun h => ?_) fun h => ?_
    rotate_left
    · exact ⟨rfl, H.cut 6⟩
    have h : k < l.length := by simp at h; omega
    obtain ⟨b3, o3, hb3, hr3⟩ := (hl.vw.old H).rowAt (n := 8) Cl.cells_len (by omega) h
    obtain ⟨xok, xvw⟩ := hl.ok _ (List.getElem_mem h)
    have hw1 := wts_take h
    have hw2 := wts_take_le l (k + 1)
    generalize hx : l[k] = x at hr3 xok xvw hw1
    have hwx : wt x.s = 1 + x.s.l.length + x.s.snap.data.length / 50 + dw x.s.l := rfl
    have hbx : ∀ {L : List (Option Addr × List Value)}, Rb w L x.a (ecs x.s.l) := .inl xvw
    refine ⟨b3, o3, hb3, by omega, by omega, _, _, _, _, _, _, _, _, _, _, hr3, H.al fun b4 w14 H => Has.st H (by simp) rfl fun w15 H => ?_⟩
    have H : Has w w15 (ca b4 57 x.cells :: pl L :: ca rb 55 (pv lb 0 :: s.cells a2 s.l.length c2) :: logA 120 lb kb 1 :: kdA 36 kb d :: stoB b db 1 s :: pdA 73 db d :: []) := H
    refine ⟨fun y z w' => y = z ∧ ∃ (s2 : St) (d2 : Dk) (L2 : List (Option Addr × List Value)) (a3 : Option Addr) (c3 : Nat), s2.ok ∧ d2.ok ∧ s2.l.length ≤ s.l.length + x.s.l.length + 2 ∧ Rb w L2 a3 (ecs s2.l) ∧
      Has w w' (pl L2 :: ca rb 55 (pv lb 0 :: s2.cells a3 s2.l.length c3) :: logA 120 lb kb 1 :: kdA 36 kb d2 :: stoB b db 1 s2 :: pdA 73 db d2 :: ca b4 57 x.cells :: []), ⟨_, H.cell rfl, bif_i (fun ha => ?_) fun ha => ?_⟩, ?_⟩
    · refine H.dr fun w16 H => ⟨_, _, H.row rfl, _, _, _, _, H.row rfl, _, _, _, H.cell rfl, _, _, H.row rfl, _, _, _, _, H.row rfl, _, _, _, H.cell rfl, ?_⟩
      refine (store_Anew_spec (L := L) xok (by omega) hd (by omega) hbx (H.ro [1, 5, 6])).mono ?_
      rintro e w17 ⟨v, rfl, rfl, H⟩
      refine ⟨_, rfl, H.f3.cell rfl, H.f3.row rfl, H.f3.row rfl, H.f3.cell rfl, H.f3.row rfl, H.f3.row rfl, ?_⟩
      refine (ref08_Anew_spec (L := L) xok (by omega) hd (by omega) hb hbx (H.ro [0, 4, 5, 6])).mono ?_
      rintro e w18 ⟨v, rfl, rfl, a3, c3, L2, hsub, hb2, H⟩
      have hgo := anew8_ok hs xok hd (n := 1) (by omega)
      exact ⟨_, rfl, H.f6.cell rfl, H.f6.row rfl, H.f6.row rfl, H.f6.cell rfl, H.f6.row rfl, H.f6.row rfl, rfl, _, _, L2, a3, c3, hgo.1, hgo.2.2, by omega, hb2, H⟩
    · refine H.dr fun w16 H => ⟨_, _, H.row rfl, _, _, _, H.cell rfl, _, _, H.row rfl, _, _, _, H.cell rfl, ?_⟩
      refine (store_Save_spec (L := L) hs hd (by omega) xok.term xok.vote xok.l (by omega) hbx (H.ro [1, 5, 6])).mono ?_
      rintro e w17 ⟨v, rfl, rfl, H⟩
      refine ⟨_, rfl, H.f3.cell rfl, H.f3.row rfl, ?_⟩
      refine (ref08_Save_spec (L := L) hs hd (by omega) xok.term xok.l (by omega) hb hbx (H.ro [0, 4, 5, 6])).mono ?_
      rintro e w18 ⟨v, rfl, rfl, a3, c3, L2, hsub, hb2, H⟩
      have hgo := save8_ok hs hd (n := 1) (by omega) (t := x.s.term) (v := x.s.vote) (l := x.s.l) (by omega)
      exact ⟨_, rfl, rfl, _, _, L2, a3, c3, hgo.1, hgo.2.2, by omega, hb2, H⟩
    clear H hb hs hd
    rintro _ y z w19 ⟨rfl, s2, d2, L2, a3, c3, hs2, hd2, hsl2, hb2, H⟩
    refine (disk_Read_spec hd2 (n := 1) (by omega) (H.ro [5])).mono ?_
    rintro e w20 ⟨v, rfl, rfl, H⟩
    refine ⟨_, _, rfl, ?_⟩
    refine (ref04_Read_spec hd2 (n := 1) (by omega) (H.ro [4])).mono ?_
    rintro e w21 ⟨v, rfl, rfl, H⟩
    refine ⟨_, _, rfl, H.dr fun w22 H => bif_f (by simp) ⟨_, _, _, _, _, _, _, _, _, row (H.ro [3]), ?_⟩⟩
    refine (store_State_spec hs2 (H.ro [5])).mono ?_
    rintro e w23 ⟨v, rfl, a4, c4, rfl, H⟩
    refine ⟨_, _, _, _, _, _, _, _, _, rfl, row (H.ro [5]), ?_⟩
    refine (law_same_spec hs2 hs2 H.vw (hb2.vw (H.ro [4]))).mono ?_
    rintro e w24 ⟨v, rfl, rfl, H2⟩
    have H := H.frame H2
    refine ⟨_, rfl, bif_f (by simp) (bif_f (by simp [strEq]) ?_)⟩
    rw [w64_id (by omega)]
    exact ⟨⟨k + 1, s2, d2, L2, a3, c3, by omega, h, hs2, hd2, by omega, hb2, (H.rm [0, 7]).ro [3, 4, 5, 1, 0, 2]⟩, by dsimp only; omega⟩

end Go.Proofs.YtbcepafeiocobaaGreat
