/-
  StoreLasts, walked: it answers true, whatever comes.
-/
import Derived.Test.YtbcepafeiocobaaXHelp
import Derived.Test.YtbcepafeiocobaaXRo
set_option maxRecDepth 8000
namespace Go.X
open Go

theorem open_new2 : ∃ d', (Dk.new 1048576).open8 0 7 = (0, some (first8 7), d') ∧ ∀ n : Int, -9223372036854775808 ≤ n ∧ n ≤ 9223372036854775807 → Lst (d'.fuelled n) (first8 7) 0 := by
  obtain ⟨d', h1, h2⟩ := (Inf.new (room := 1048576) (by omega) 0).opened0 (by omega)
  refine ⟨d', ?_, fun n hn => ⟨?_, ⟨?_, ?_, ?_⟩, ⟨[], ?_, ?_, ?_, ?_, ?_⟩, first8_ok (by omega), right1, ?_, ?_⟩⟩
  · unfold Dk.open8
    rw [if_neg (by decide), h1]
    dsimp only
    rw [if_neg (by simp)]
    have e : takes (first8 7) [] = some (first8 7) := rfl
    rw [e]
    dsimp only
    rw [if_pos right1]
  · exact h2.room
  · exact h2.ok.room
  · exact h2.ok.used
  · show -1 ≤ maxV n (-1) ∧ maxV n (-1) ≤ _
    unfold maxV; split <;> omega
  · exact h2.val
  · exact h2.used
  · simp [frames]
  · rfl
  · rfl
  · simp [first8]
  · simp [first8]

theorem Lst.mono {d : Dk} {s : St} {W W' : Nat} (h : Lst d s W) (hw : W ≤ W') : Lst d s W' := by
  obtain ⟨R, h1, h2, h3, h4, h5⟩ := h.val
  exact ⟨h.room, h.ok, ⟨R, h1, h2, by omega, h4, h5⟩, h.sok, h.right, h.data, by have := h.len; omega⟩

theorem Rb.tk {w0 w : World} {r : List A} {L : List (Option Addr × List Value)} {a : Option Addr} {xs : List Value} (h : Rb w0 L a xs) (H : Has w0 w (pl L :: r)) (k : Nat) : ∃ L', (∀ p ∈ L, p ∈ L') ∧ Rb w0 L' a (xs.take k) ∧ Has w0 w (pl L' :: r) := by
  rcases h with h | h
  · exact ⟨L, fun _ h => h, .inl (h.take k), H⟩
  · exact ⟨_, fun _ h => .tail _ h, Rb.hd, H.plTake h k⟩

theorem Has.mid {w0 w : World} {q r : List A} {x : A} (H : Has w0 w (q ++ x :: r)) : Has w0 w (x :: (q ++ r)) := H.perm List.perm_middle

/-- States as the law keeps them. -/
structure My where
  s : St
  a : Option Addr
  c : Nat
def My.cells (x : My) : List Value := x.s.cells x.a x.s.l.length x.c
def mcs (l : List My) : List Value := l.flatMap My.cells
theorem My.cells_len (x : My) : x.cells.length = 7 := rfl
theorem mcs_snoc (l : List My) (x : My) : mcs l ++ x.cells = mcs (l ++ [x]) := by simp [mcs]
theorem mcs_one (x : My) : mcs [x] = x.cells := by simp [mcs]

end Go.X
namespace Go.Proofs.Ytbcepafeiocobaa
open Go.X

theorem elM : El Try.prog 59 50 7 80 := El.of (by kernel_rfl)

theorem StoreLasts_spec {w : World} {la : Option Addr} {lc : Nat} {l : List Cl} (hl : Cls w la l) {fuel keep : Int} (hf : -9223372036854775808 ≤ fuel ∧ fuel ≤ 9223372036854775807) (hk : -9223372036854775808 ≤ keep ∧ keep ≤ 9223372036854775807) :
    Calls Try.prog 4 #[.slice la l.length lc, .int .i64 fuel, .int .i64 keep] w fun e w' => ∃ v, e = .returned v ∧ v = .bool true ∧ Has w w' [] := by
  refine tontinelaw08_StoreLasts.ok _ _ _ _ _ ?_
  refine begun_spec.mono ?_
  rintro e w1 ⟨v, rfl, rfl, H⟩
  refine ⟨_, rfl, bif_f rfl ?_⟩
  have hl1 : Cls w1 la l := ⟨hl.vw.old H, fun x hx => ⟨(hl.ok x hx).1, (hl.ok x hx).2.old H⟩, hl.len⟩
  refine (law_light_spec hl1).mono ?_
  rintro e w2 ⟨v, rfl, rfl, H2⟩
  have H : Has w w2 [] := H.frame H2
  clear H2 hl1
  refine ⟨_, rfl, bif_i (fun h => ?_) fun h => ?_⟩
  · exact ⟨rfl, H⟩
  have hW : wts l ≤ 400 := by simpa using h
  clear h
  have hlen := hl.len
  obtain ⟨d0, hd0, hlst0⟩ := open_new2
  refine (disk_New_spec (room := 1048576) (by omega) H).mono ?_
  rintro e w3 ⟨v, rfl, db, rfl, H⟩
  refine ⟨_, _, _, rfl, ?_⟩
  refine (store_Open_spec (n := 0) (m := 7) (Dk.new_ok (by omega)) (by omega) (by omega) H).mono ?_
  rintro e w4 ⟨v, rfl, hcase⟩
  rw [hd0] at hcase
  obtain ⟨hs1, _, _, _, b, a, c, rfl, H⟩ := hcase
  refine ⟨_, _, _, _, _, _, _, _, _, _, _, _, rfl, H.al fun b1 w5 H => Has.st H (by simp) rfl fun w6 H => bif_f rfl ?_⟩
  refine (disk_Fuel_spec (n := fuel) H.f3).mono ?_
  rintro e w7 ⟨v, rfl, rfl, H⟩
  refine ⟨rfl, ?_⟩
  have hL0 := hlst0 fuel hf
  generalize d0.fuelled fuel = d at hL0 H
  clear hd0 hlst0 hs1
  refine (ref08_First_spec H).mono ?_
  rintro e w8 ⟨v, rfl, rfl, H⟩
  refine ⟨_, _, _, _, _, _, _, _, _, rfl, H.al fun b2 w9 H => ?_⟩
  have H : Has w w9 (ca b2 50 (My.cells ⟨first8 7, none, 0⟩) :: pl [] :: stoB b db 0 (first8 7) :: dskB db d :: []) := by
    exact (H.rm [4, 2]).pl0.ro [1, 0, 3, 2]
  have H := Has.mkow (sz := 7) (n := 1) H rfl (by decide)
  rw [← mcs_one] at H
  -- what is known behind the calls
  refine ⟨fun ia in_ ic w' => ∃ (mays : List My) (L : List (Option Addr × List Value)) (s : St) (d : Dk), in_ = mays.length ∧ mays.length ≤ 1000000 ∧ (∀ x ∈ mays, x.s.ok ∧ Rb w L x.a (ecs x.s.l)) ∧ Finds d (fun q => ∃ x ∈ mays, x.s = q) ∧
      Has w w' (ow 50 7 ia mays.length ic (mcs mays) :: pl L :: stoB b db 0 s :: dskB db d :: []), ?_, ?_⟩
  · refine ⟨fun ia in_ ic i w' => ∃ (k : Nat) (L : List (Option Addr × List Value)) (d : Dk) (m : My), i = (k : Int) ∧ k ≤ l.length ∧ in_ = 1 ∧ Lst d m.s (wts (l.take k)) ∧ Rb w L m.a (ecs m.s.l) ∧
      Has w w' (ow 50 7 ia 1 ic (mcs [m]) :: pl L :: stoB b db 0 m.s :: dskB db d :: []), fun _ _ _ i _ => l.length + 1 - i.toNat, ⟨0, [], d, ⟨first8 7, none, 0⟩, rfl, by omega, rfl, hL0, Rb.nil, H⟩, ?_⟩
    clear H hL0
    rintro _ ia in_ ic i w10 ⟨k, L, d, m, rfl, hk', rfl, hL, hbm, H⟩
    refine bif_i (fun h => ?_) fun h => ?_
    rotate_left
    · exact ⟨[m], L, m.s, d, rfl, by simp, fun x hx => by simp at hx; subst hx; exact ⟨hL.sok, hbm⟩, ⟨hL.finds.1, fun ks => by
        obtain ⟨s', d', h1, h2⟩ := hL.finds.2 ks
        exact ⟨s', d', h1, m, by simp, h2.symm⟩⟩, H⟩
    have h : k < l.length := by simp at h; omega
    obtain ⟨b3, o3, hb3, hr3⟩ := (hl.vw.old H).rowAt (n := 8) Cl.cells_len (by omega) h
    obtain ⟨xok, xvw⟩ := hl.ok _ (List.getElem_mem h)
    have hw1 := wts_take h
    have hw2 := wts_take_le l (k + 1)
    generalize hx : l[k] = x at hr3 xok xvw hw1
    have hwx : wt x.s = 1 + x.s.l.length + x.s.snap.data.length / 50 + dw x.s.l := rfl
    refine ⟨b3, o3, hb3, by omega, by omega, _, _, _, _, _, _, _, _, _, _, hr3, H.al fun b4 w11 H => Has.st H (by simp) rfl fun w12 H => ?_⟩
    have H : Has w w12 (ca b4 61 x.cells :: ow 50 7 ia 1 ic (mcs [m]) :: pl L :: stoB b db 0 m.s :: dskB db d :: []) := H
    obtain ⟨b5, o5, hb5, hr5⟩ := (H.f1.vw).rowAt (l := [m]) (f := My.cells) (n := 7) My.cells_len (by omega) (i := 0) (by simp)
    have hr5 : rdRow w12 b5 o5 m.cells := by simpa using hr5
    refine ⟨b5, o5, hb5, by omega, by omega, _, _, _, _, _, _, _, _, _, hr5, H.al fun b6 w13 H => Has.st H (by simp) rfl fun w14 H => ?_⟩
    have H : Has w w14 (ca b6 50 m.cells :: ca b4 61 x.cells :: ow 50 7 ia 1 ic (mcs [m]) :: pl L :: stoB b db 0 m.s :: dskB db d :: []) := H
    refine ⟨_, _, H.f1.row rfl, _, _, _, _, H.f1.row rfl, _, _, _, H.f1.cell rfl, H.al fun b7 w15 H => Has.st H (by simp) rfl fun w16 H => ?_⟩
    have H : Has w w16 (ca b7 50 (x.s.cells x.a x.s.l.length x.c) :: ca b6 50 m.cells :: ca b4 61 x.cells :: ow 50 7 ia 1 ic (mcs [m]) :: pl L :: stoB b db 0 m.s :: dskB db d :: []) := H
    have hbx : Rb w L x.a (ecs x.s.l) := .inl xvw
    obtain ⟨F, hF⟩ : ∃ F, F = ca b7 50 (x.s.cells x.a x.s.l.length x.c) :: ca b6 50 m.cells :: ca b4 61 x.cells :: ow 50 7 ia 1 ic (mcs [m]) :: [] := ⟨_, rfl⟩
    have hLd := hL.len
    -- the call
    refine ⟨fun i w' => Has w w' (ca b4 61 x.cells :: pl L :: stoB b db 0 (if x.anew then anew8 m.s d 0 x.s else save8 m.s d 0 x.s.term x.s.vote x.s.l).2.1 :: dskB db (if x.anew then anew8 m.s d 0 x.s else save8 m.s d 0 x.s.term x.s.vote x.s.l).2.2 ::
      ca b7 50 (x.s.cells x.a x.s.l.length x.c) :: ca b6 50 m.cells :: ow 50 7 ia 1 ic (mcs [m]) :: []) ∧ i = (((if x.anew then anew8 m.s d 0 x.s else save8 m.s d 0 x.s.term x.s.vote x.s.l).1 : Nat) : Int), ?_, ?_⟩
    · refine ⟨_, H.f2.cell rfl, bif_i (fun ha => ?_) fun ha => ?_⟩
      · refine ⟨_, _, H.f2.row rfl, _, _, _, _, H.f2.row rfl, _, _, _, H.f2.cell rfl, ?_⟩
        refine (store_Anew_spec xok (by omega) hL.ok (by omega) hbx H.f6.f6.f6).mono ?_
        rintro e w17 ⟨v, rfl, rfl, H⟩
        rw [if_pos ha]
        exact ⟨_, rfl, H.f5, rfl⟩
      · refine ⟨_, _, H.f2.row rfl, _, _, _, H.f2.cell rfl, ?_⟩
        refine (store_Save_spec hL.sok hL.ok (by omega) xok.term xok.vote xok.l (by omega) hbx H.f6.f6.f6).mono ?_
        rintro e w17 ⟨v, rfl, rfl, H⟩
        rw [if_neg (by simp [ha])]
        exact ⟨_, rfl, H.f5, rfl⟩
    clear H
    rintro _ y w18 ⟨H, rfl⟩
    obtain ⟨Z, hZ⟩ : ∃ Z, Z = (if x.anew then anew8 m.s d 0 x.s else save8 m.s d 0 x.s.term x.s.vote x.s.l) := ⟨_, rfl⟩
    rw [← hZ] at H ⊢
    have hcases : (Z = (1, m.s, d)) ∨ (∃ s' d', Z = (0, s', d') ∧ Lst d' s' (wts (l.take (k + 1))) ∧ (x.anew = true → s' = x.s) ∧ (x.anew = false → takes m.s (recsOf m.s x.s.term x.s.vote x.s.l) = some s' ∧ s'.right = true)) ∨
        (∃ d', Z = (10, m.s, d') ∧ (x.anew = true → Finds d' fun q => q = m.s) ∧ (x.anew = false → ∃ s', takes m.s (recsOf m.s x.s.term x.s.vote x.s.l) = some s' ∧ s'.right = true ∧
          Finds d' fun q => q = m.s ∨ ∃ k, k < (recsOf m.s x.s.term x.s.vote x.s.l).length ∧ takes m.s ((recsOf m.s x.s.term x.s.vote x.s.l).take (k + 1)) = some q)) := by
      by_cases ha : x.anew = true
      · rw [if_pos ha] at hZ
        rcases hL.anew xok (by omega) with h1 | ⟨d', h1, h2⟩ | ⟨d', h1, h2⟩
        · exact .inl (hZ.trans h1)
        · exact .inr (.inl ⟨_, _, hZ.trans h1, h2.mono (by omega), fun _ => rfl, fun h => by rw [ha] at h; cases h⟩)
        · exact .inr (.inr ⟨_, hZ.trans h1, fun _ => h2, fun h => by rw [ha] at h; cases h⟩)
      · rw [if_neg ha] at hZ
        rcases hL.save xok.term xok.vote xok.l (by omega) with h1 | ⟨s', d', h3, h4, h1, h2⟩ | ⟨s', d', h3, h4, h1, h2⟩
        · exact .inl (hZ.trans h1)
        · exact .inr (.inl ⟨_, _, hZ.trans h1, h2.mono (by omega), fun h => absurd h ha, fun _ => ⟨h3, h4⟩⟩)
        · exact .inr (.inr ⟨_, hZ.trans h1, fun h => absurd h ha, fun _ => ⟨_, h3, h4, h2⟩⟩)
    clear hZ
    rcases hcases with rfl | ⟨s', d', rfl, hL', ha1, ha2⟩ | ⟨d', rfl, ha1, ha2⟩
    · refine bif_t (by simp) ?_
      rw [w64_id (by omega)]
      exact ⟨⟨k + 1, L, d, m, by omega, h, rfl, hL.mono (by omega), hbm, (H.rm [0, 4, 5]).ro [3]⟩, by dsimp only; omega⟩
    · -- answered
      refine bif_f (by simp) ⟨fun ia2 in2 ic2 w' => x.anew = false ∧ ia = ia2 ∧ 1 = in2 ∧ ic = ic2 ∧ Has w w' (ca b4 61 x.cells :: pl L :: stoB b db 0 s' :: dskB db d' ::
        ca b7 50 (x.s.cells x.a x.s.l.length x.c) :: ca b6 50 m.cells :: ow 50 7 ia 1 ic (mcs [m]) :: []), bif_t (by simp) ⟨_, H.cell rfl, bif_i (fun ha => ?_) fun ha => ?_⟩, ?_⟩
      · have e := ha1 ha
        subst e
        refine ⟨_, _, _, _, _, _, _, _, _, H.f4.row rfl, H.al fun b8 w19 H => ?_⟩
        have H : Has w w19 (ca b8 50 (My.cells ⟨x.s, x.a, x.c⟩) :: _) := H
        have H := Has.mkow (sz := 7) (n := 1) H rfl (by decide)
        rw [← mcs_one] at H
        rw [w64_id (by omega)]
        exact ⟨⟨k + 1, L, d', ⟨x.s, x.a, x.c⟩, by omega, h, rfl, hL', hbx, (H.rm [1, 5, 6, 7])⟩, by dsimp only; omega⟩
      · exact ⟨ha, rfl, rfl, rfl, H⟩
      clear H
      rintro _ _ _ _ w19 ⟨ha, rfl, rfl, rfl, H⟩
      refine ⟨fun w' => Has w w' (ca b4 61 x.cells :: pl L :: stoB b db 0 s' :: dskB db d' ::
        ca b7 50 (x.s.cells x.a x.s.l.length x.c) :: ca b6 50 m.cells :: ow 50 7 ia 1 ic (mcs [m]) :: []), bif_f (by simp) H, ?_⟩
      clear H
      rintro _ w20 H
      refine ⟨_, H.cell rfl, bif_f ha ⟨_, _, _, _, _, _, _, _, _, H.f5.row rfl, _, _, H.row rfl, _, _, _, H.cell rfl, ?_⟩⟩
      refine (ref08_Records_spec hL.sok xok.term xok.l (by omega) hbm hbx H.f1).mono ?_
      rintro e w21 ⟨v, rfl, L', hsub, H, hcase⟩
      obtain ⟨ht, hr⟩ := ha2 ha
      rw [ht] at hcase
      obtain ⟨oa, oc, a2, c2, rfl, hoc, hoc2, hbo, hb2⟩ := hcase
      refine ⟨_, _, _, _, _, _, _, _, _, _, _, _, ⟨_, rfl, H.al fun b9 w22 H => Has.st H (by simp) rfl fun w23 H => bif_t (by simp) ⟨_, _, _, _, _, _, _, _, _, H.row rfl, H.al fun b10 w24 H => ?_⟩⟩⟩
      have H : Has w w24 (ca b10 50 (My.cells ⟨s', a2, c2⟩) :: _) := H
      have H := Has.mkow (sz := 7) (n := 1) H rfl (by decide)
      rw [← mcs_one] at H
      rw [w64_id (by omega)]
      exact ⟨⟨k + 1, L', d', ⟨s', a2, c2⟩, by omega, h, rfl, hL', hb2, (H.rm [1, 3, 6, 7, 8])⟩, by dsimp only; omega⟩
    · -- the disk went off
      refine bif_f (by simp) ⟨fun ia2 in2 ic2 w' => ia = ia2 ∧ 1 = in2 ∧ ic = ic2 ∧ Has w w' (ca b4 61 x.cells :: pl L :: stoB b db 0 m.s :: dskB db d' ::
        ca b7 50 (x.s.cells x.a x.s.l.length x.c) :: ca b6 50 m.cells :: ow 50 7 ia 1 ic (mcs [m]) :: []), bif_f (by simp) ⟨rfl, rfl, rfl, H⟩, ?_⟩
      clear H
      rintro _ _ _ _ w19 ⟨rfl, rfl, rfl, H⟩
      refine ⟨fun w' => Has w w' (ca b4 61 x.cells :: pl L :: stoB b db 0 m.s :: dskB db d' ::
        ca b7 50 (x.s.cells x.a x.s.l.length x.c) :: ca b6 50 m.cells :: ow 50 7 ia 1 ic (mcs [m]) :: []), bif_t (by simp) (bif_f (by simp) H), ?_⟩
      clear H
      rintro _ w20 H
      refine ⟨_, H.cell rfl, bif_i (fun ha => ?_) fun ha => ?_⟩
      · have hfd := ha1 ha
        exact ⟨[m], L, m.s, d', rfl, by simp, fun x hx => by simp at hx; subst hx; exact ⟨hL.sok, hbm⟩, ⟨hfd.1, fun ks => by
          obtain ⟨s', d'', h1, h2⟩ := hfd.2 ks
          exact ⟨s', d'', h1, m, by simp, h2.symm⟩⟩, (H.rm [0, 4, 5]).ro [3]⟩
      obtain ⟨s', ht, hr, hfd⟩ := ha2 ha
      refine ⟨_, _, _, _, _, _, _, _, _, H.f5.row rfl, _, _, H.row rfl, _, _, _, H.cell rfl, ?_⟩
      refine (ref08_Records_spec hL.sok xok.term xok.l (by omega) hbm hbx H.f1).mono ?_
      rintro e w21 ⟨v, rfl, L', hsub, H, hcase⟩
      have hpre := takes_right hL.right xok.term xok.vote xok.l ht hr
      have hsm := recs_small (s := m.s) xok.term x.s.vote xok.l
      obtain ⟨q1, q2, q3⟩ := recs_len m.s x.s.term x.s.vote x.s.l
      rw [ht] at hcase
      obtain ⟨oa, oc, a2, c2, rfl, hoc, hoc2, hbo, hb2⟩ := hcase
      generalize recsOf m.s x.s.term x.s.vote x.s.l = out at ht hfd hpre hoc hbo hsm q3 ⊢
      have hbm' := hbm.mono hsub
      simp only [maxLen] at hoc2
      refine ⟨_, _, _, _, _, _, _, _, _, _, _, _, ⟨_, rfl, H.al fun b9 w22 H => Has.st H (by simp) rfl fun w23 H => bif_f (by simp) ?_⟩⟩
      obtain ⟨G, hG⟩ : ∃ G, G = stoB b db 0 m.s :: dskB db d' :: [] := ⟨_, rfl⟩
      have H : Has w w23 (ow 50 7 ia 1 ic (mcs [m]) :: pl L' :: ca b6 50 m.cells :: G) := by rw [hG]; exact ((H.rm [0, 2, 5]).ro [4, 0, 3])
      refine ⟨fun ia in_ ic i w' => ∃ (k : Nat) (mays : List My) (L'' : List (Option Addr × List Value)), i = (k : Int) ∧ k ≤ out.length ∧ in_ = mays.length ∧ mays.length ≤ k + 1 ∧ (∀ p ∈ L', p ∈ L'') ∧ (∀ x ∈ mays, x.s.ok ∧ Rb w L'' x.a (ecs x.s.l)) ∧
        (∃ x ∈ mays, x.s = m.s) ∧ (∀ j, j < k → ∀ q, takes m.s (out.take (j + 1)) = some q → ∃ x ∈ mays, x.s = q) ∧
        Has w w' (ow 50 7 ia mays.length ic (mcs mays) :: pl L'' :: ca b6 50 m.cells :: G), fun _ _ _ i _ => out.length + 1 - i.toNat,
        ⟨0, [m], L', rfl, by omega, rfl, by simp, fun _ h => h, fun x hx => by simp at hx; subst hx; exact ⟨hL.sok, hbm'⟩, ⟨m, by simp, rfl⟩, fun j hj => absurd hj (by omega), H⟩, ?_⟩
      clear H
      rintro _ ia in_ ic i w24 ⟨k2, mays, L2, rfl, hk2, rfl, hml, hsub2, hmays, hm0, hmk, H⟩
      refine bif_i (fun h2 => ?_) fun h2 => ?_
      rotate_left
      · have h2 : k2 = out.length := by simp at h2; omega
        subst h2
        refine ⟨mays, L2, m.s, d', rfl, by omega, hmays, ⟨hfd.1, fun ks => ?_⟩, by rw [hG] at H; exact H.rm [2] |>.ro []⟩
        obtain ⟨s2, d2, h3, h4⟩ := hfd.2 ks
        refine ⟨s2, d2, h3, ?_⟩
        rcases h4 with rfl | ⟨j, hj, h4⟩
        · exact hm0
        · exact hmk j hj s2 h4
      have h2 : k2 < out.length := by simp at h2; omega
      obtain ⟨q, hq, hqr⟩ := hpre (k2 + 1)
      have hqok := takes_ok (out.take (k2 + 1)) hL.sok (by simp; omega) hq
      have hsaid : takes (first8 7) (anewRecs m.s ++ out.take (k2 + 1)) = some q := by
        rw [takes_append, anew_takes hL.sok hL.right hL.data, Option.bind_some, hq]
      have e1 : (w64 ((k2 : Int) + 1)).toNat = (out.take (k2 + 1)).length := by rw [w64_id (by omega), List.length_take]; omega
      obtain ⟨L3, hsub3, hbt, H⟩ := (hbo.mono hsub2).tk H.f1 (k2 + 1)
      have hbt : Rb w L3 oa (ss (out.take (k2 + 1))) := by
        have e : (ss out).take (k2 + 1) = ss (out.take (k2 + 1)) := by unfold ss; rw [List.map_take]
        rw [e] at hbt; exact hbt
      have hbm3 := (hbm'.mono hsub2).mono hsub3
      have hsml : ∀ x ∈ out.take (k2 + 1), x.length ≤ 4611686018427387904 := fun x hx => by have := hsm x (List.mem_of_mem_take hx); omega
      have next : ∀ {w' : World} {L4 : List (Option Addr × List Value)} {b11 : Nat} {a4 : Option Addr} {c4 : Nat}, (∀ p ∈ L3, p ∈ L4) → Rb w L4 a4 (ecs q.l) →
          Has w w' (ca b11 50 (q.cells a4 q.l.length c4) :: ow 50 7 ia mays.length ic (mcs mays) :: pl L4 :: ca b6 50 m.cells :: G) →
          alD w' (.cells (q.cells a4 q.l.length c4).toArray 50 (0, 0)) fun b12 w_33 => exSl Try.prog (Builtin.append_ #[59, 59] 59 #[.slice ia mays.length ic, .slice (some ⟨b12, 0, none⟩) 1 1]) (fun sa sn sc w_34 =>
            (∃ (k : Nat) (mays : List My) (L'' : List (Option Addr × List Value)), w64 ((k2 : Int) + 1) = (k : Int) ∧ k ≤ out.length ∧ sn = mays.length ∧ mays.length ≤ k + 1 ∧ (∀ p ∈ L', p ∈ L'') ∧ (∀ x ∈ mays, x.s.ok ∧ Rb w L'' x.a (ecs x.s.l)) ∧
            (∃ x ∈ mays, x.s = m.s) ∧ (∀ j, j < k → ∀ q, takes m.s (out.take (j + 1)) = some q → ∃ x ∈ mays, x.s = q) ∧
            Has w w_34 (ow 50 7 sa mays.length sc (mcs mays) :: pl L'' :: ca b6 50 m.cells :: G)) ∧ out.length + 1 - (w64 ((k2 : Int) + 1)).toNat < out.length + 1 - ((k2 : Int)).toNat) w_33 := by
        intro w' L4 b11 a4 c4 hs4 hb4 H
        refine H.al fun b12 w25 H => ?_
        refine Has.app (m := 1) elM H.f2 (H.src (vs := q.cells a4 q.l.length c4) elM rfl rfl) (by omega) (by simp [maxLen]; omega) fun a5 c5 w26 H => ?_
        have e2 : mcs mays ++ q.cells a4 q.l.length c4 = mcs (mays ++ [⟨q, a4, c4⟩]) := mcs_snoc mays ⟨q, a4, c4⟩
        have e3 : mays.length + 1 = (mays ++ [(⟨q, a4, c4⟩ : My)]).length := by simp
        rw [e2] at H
        rw [w64_id (by omega)]
        refine ⟨⟨k2 + 1, mays ++ [⟨q, a4, c4⟩], L4, by omega, h2, e3, by simp; omega, fun p hp => hs4 p (hsub3 p (hsub2 p hp)), ?_, ?_, ?_, ?_⟩, by omega⟩
        · intro x hx
          rcases List.mem_append.1 hx with hx | hx
          · exact ⟨(hmays x hx).1, ((hmays x hx).2.mono hsub3).mono hs4⟩
          · simp at hx; subst hx; exact ⟨hqok.1, hb4⟩
        · obtain ⟨x, hx, e⟩ := hm0
          exact ⟨x, List.mem_append_left _ hx, e⟩
        · intro j hj q2 hq2
          by_cases hj2 : j < k2
          · obtain ⟨x, hx, e⟩ := hmk j hj2 q2 hq2
            exact ⟨x, List.mem_append_left _ hx, e⟩
          · obtain rfl : j = k2 := by omega
            rw [hq] at hq2
            cases hq2
            exact ⟨⟨q, a4, c4⟩, by simp, rfl⟩
        · rw [← e3]; exact H.rm [1, 2]
      refine H.dr fun w25 H => ⟨_, _, _, _, _, _, _, _, _, H.f2.row rfl, by rw [w64_id (by omega)]; omega, by rw [w64_id (by omega)]; omega, ?_, ?_⟩
      · rw [e1]
        refine (law_said_spec hL.sok hsml (by simp; omega) hbm3 hbt H).mono ?_
        rintro e w26 ⟨v, rfl, L4, hsub4, H, hcase⟩
        rw [hsaid] at hcase
        obtain ⟨a4, c4, rfl, hb4⟩ := hcase
        refine ⟨_, _, _, _, _, _, _, _, _, ⟨_, rfl, H.al fun b11 w27 H => Has.st H (by simp) rfl fun w28 H => bif_t hqr ⟨_, _, _, _, _, _, _, _, _, H.row rfl, ?_⟩⟩⟩
        exact next hsub4 hb4 (H.ro [0, 2])
      · refine H.al fun b11 w26 H => ⟨H.f3.row rfl, ?_⟩
        rw [e1]
        refine (law_said_spec hL.sok hsml (by simp; omega) hbm3 hbt H.f1).mono ?_
        rintro e w27 ⟨v, rfl, L4, hsub4, H, hcase⟩
        rw [hsaid] at hcase
        obtain ⟨a4, c4, rfl, hb4⟩ := hcase
        refine ⟨_, _, _, _, _, _, _, _, _, ⟨_, rfl, Has.st H.f1 (by simp) rfl fun w28 H => bif_t hqr ⟨_, _, _, _, _, _, _, _, _, H.row rfl, ?_⟩⟩⟩
        exact next hsub4 hb4 (H.ro [0, 2])
  · clear H hL0
    rintro _ ia _ ic w10 ⟨mays, L, s, d, rfl, hml, hmays, hfd, H⟩
    obtain ⟨s', d', ho, y, hy, rfl⟩ := hfd.2 [keep]
    refine H.al fun b15 w11 H => ?_
    have H : Has w w11 (ca b15 3 (is [keep]) :: _) := H
    refine (disk_Crash_spec (ks := [keep]) hfd.1 (by simp) (by simpa using hk) (fun H => ?_) (H.ro [4, 0])).mono ?_
    · have H := H.mid
      exact .inr ⟨b15, 0, rfl, fun j v hj => by rw [Nat.zero_add]; exact H.cell hj⟩
    rintro e w12 ⟨v, rfl, cb, rfl, H⟩
    refine ⟨_, _, rfl, ?_⟩
    refine (store_Open_spec (n := 0) (m := 7) (hfd.1.crash [keep]) (by omega) (by omega) H).mono ?_
    rintro e w13 ⟨v, rfl, hcase⟩
    rw [ho] at hcase
    obtain ⟨hs1, _, _, _, b5, a5, c5, rfl, H⟩ := hcase
    refine ⟨_, _, _, _, _, _, _, _, _, _, _, _, rfl, H.al fun b6 w14 H => Has.st H (by simp) rfl fun w15 H => bif_f rfl ?_⟩
    have H : Has w w15 (ow 50 7 ia mays.length ic (mcs mays) :: pl L :: ca b6 42 (y.s.cells a5 y.s.l.length c5) :: ow 72 4 a5 y.s.l.length c5 (ecs y.s.l) :: []) := H.rm [1, 3, 4, 5, 8] |>.ro [2, 3]
    refine ⟨fun i w' => ∃ k : Nat, i = (k : Int) ∧ k ≤ mays.length ∧ (∃ x ∈ mays.drop k, x.s = y.s) ∧
      Has w w' (ow 50 7 ia mays.length ic (mcs mays) :: pl L :: ca b6 42 (y.s.cells a5 y.s.l.length c5) :: ow 72 4 a5 y.s.l.length c5 (ecs y.s.l) :: []), fun i _ => mays.length + 1 - i.toNat, ⟨0, rfl, by omega, ⟨y, hy, rfl⟩, H⟩, ?_⟩
    clear H
    rintro _ i w16 ⟨k, rfl, hk2, hex, H⟩
    refine bif_i (fun h => ?_) fun h => ?_
    rotate_left
    · have h : k = mays.length := by simp at h; omega
      subst h
      obtain ⟨x, hx, _⟩ := hex
      simp at hx
    have h : k < mays.length := by simp at h; omega
    obtain ⟨b7, o7, hb7, hr7⟩ := H.vw.rowAt (l := mays) (f := My.cells) (n := 7) My.cells_len (by omega) h
    obtain ⟨xok, xb⟩ := hmays _ (List.getElem_mem h)
    refine ⟨b7, o7, hb7, by omega, by omega, _, _, _, _, _, _, _, _, _, hr7, H.al fun b8 w17 H => Has.st H (by simp) rfl fun w18 H => ⟨_, _, _, _, _, _, _, _, _, H.f3.row rfl, _, _, _, _, _, _, _, _, _, H.row rfl, ?_⟩⟩
    refine (law_same_spec hs1 xok H.f4.vw (xb.vw H.f2)).mono ?_
    rintro e w19 ⟨v, rfl, rfl, H2⟩
    have H := H.frame H2
    refine ⟨_, rfl, bif_i (fun h3 => ?_) fun h3 => ?_⟩
    · exact ⟨rfl, H.cut 5⟩
    · rw [w64_id (by omega)]
      refine ⟨⟨k + 1, by omega, h, ?_, H.drop⟩, by dsimp only; omega⟩
      obtain ⟨x, hx, he⟩ := hex
      rw [List.drop_eq_getElem_cons h] at hx
      rcases List.mem_cons.1 hx with rfl | hx
      · rw [he] at h3
        simp at h3
      · exact ⟨x, hx, he⟩

end Go.Proofs.Ytbcepafeiocobaa
