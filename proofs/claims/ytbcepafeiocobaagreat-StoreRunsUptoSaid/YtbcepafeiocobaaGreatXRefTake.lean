/-
  Layer 8 (store): what a record makes of a state, the reference's way.
-/
import Derived.Test.YtbcepafeiocobaaGreatXOpen
set_option maxRecDepth 8000
namespace Go.X
open Go

/-- A row that can be read for good: it was there, or it is among those that nobody writes. -/
def Rb (w0 : World) (L : List (Option Addr × List Value)) (a : Option Addr) (xs : List Value) : Prop := Vw w0 a xs ∨ (a, xs) ∈ L

theorem Rb.vw {w0 w : World} {r : List A} {L : List (Option Addr × List Value)} {a : Option Addr} {xs : List Value} (h : Rb w0 L a xs) (H : Has w0 w (pl L :: r)) : Vw w a xs := by
  rcases h with h | h
  · exact h.old H
  · exact H.plVw h
theorem Rb.mono {w0 : World} {L L' : List (Option Addr × List Value)} {a : Option Addr} {xs : List Value} (h : Rb w0 L a xs) (hs : ∀ p ∈ L, p ∈ L') : Rb w0 L' a xs := h.imp id (hs _)
theorem Rb.hd {w0 : World} {L : List (Option Addr × List Value)} {a : Option Addr} {xs : List Value} : Rb w0 ((a, xs) :: L) a xs := .inr (.head _)
theorem Rb.nil {w0 : World} {L : List (Option Addr × List Value)} {a : Option Addr} : Rb w0 L a [] := .inl (.inl rfl)

end Go.X
namespace Go.Proofs.YtbcepafeiocobaaGreat
open Go.X

section
variable {w0 w : World} {r : List A} {L : List (Option Addr × List Value)} {s : St}

theorem ref_tail {w : World} {r : List A} {b2 b3 b4 n c : Nat} {a : Option Addr} {rd : Rd} {s2 : St} {z : List Value} {R : Value → World → Prop} (hz : z.length = 7)
    (H : Has w0 w (rdA 155 b4 rd :: ca b3 53 z :: ca b2 53 (s2.cells a n c) :: r)) (k : ∀ w', Has w0 w' r → R (.tuple #[s2.val a n c, .bool rd.done]) w') :
    (∃ HardTerm2 : Int, ∃ HardVote2 : Int, ∃ SnapIndex2 : Int, ∃ SnapTerm2 : Int, ∃ SnapConfig2 : Int, ∃ SnapData2 : ByteArray, ∃ (Entriesa2 : Option Addr) (Entriesn2 Entriesc2 : Nat), rdRow w b2 0 [.int .u64 HardTerm2, .int .i64 HardVote2, .int .u64 SnapIndex2, .int .u64 SnapTerm2, .int .u64 SnapConfig2, .string SnapData2, .slice Entriesa2 Entriesn2 Entriesc2] ∧
    (∃ v1 : Bool, World.cell? w ⟨b4, 1, none⟩ = some (.bool v1) ∧ (bif (!v1) then (∃ v2 : ByteArray, World.cell? w ⟨b4, 0, none⟩ = some (.string v2) ∧
    (stD w b3 0 [.int .u64 HardTerm2, .int .i64 HardVote2, .int .u64 SnapIndex2, .int .u64 SnapTerm2, .int .u64 SnapConfig2, .string SnapData2, .slice Entriesa2 Entriesn2 Entriesc2] fun w_10 =>
    World.cell? w_10 ⟨b4, 0, none⟩ = some (.string v2) ∧ World.cell? w_10 ⟨b4, 1, none⟩ = some (.bool v1) ∧
    (∃ HardTerm3 : Int, ∃ HardVote3 : Int, ∃ SnapIndex3 : Int, ∃ SnapTerm3 : Int, ∃ SnapConfig3 : Int, ∃ SnapData3 : ByteArray, ∃ (Entriesa3 : Option Addr) (Entriesn3 Entriesc3 : Nat), rdRow w_10 b3 0 [.int .u64 HardTerm3, .int .i64 HardVote3, .int .u64 SnapIndex3, .int .u64 SnapTerm3, .int .u64 SnapConfig3, .string SnapData3, .slice Entriesa3 Entriesn3 Entriesc3] ∧
    R (.tuple #[.agg #[.int .u64 HardTerm3, .int .i64 HardVote3, .int .u64 SnapIndex3, .int .u64 SnapTerm3, .int .u64 SnapConfig3, .string SnapData3, .slice Entriesa3 Entriesn3 Entriesc3], .bool (strEq v2 ⟨#[]⟩)]) w_10)))
     else (stD w b3 0 [.int .u64 HardTerm2, .int .i64 HardVote2, .int .u64 SnapIndex2, .int .u64 SnapTerm2, .int .u64 SnapConfig2, .string SnapData2, .slice Entriesa2 Entriesn2 Entriesc2] fun w_11 =>
    World.cell? w_11 ⟨b4, 1, none⟩ = some (.bool v1) ∧
    (∃ HardTerm4 : Int, ∃ HardVote4 : Int, ∃ SnapIndex4 : Int, ∃ SnapTerm4 : Int, ∃ SnapConfig4 : Int, ∃ SnapData4 : ByteArray, ∃ (Entriesa4 : Option Addr) (Entriesn4 Entriesc4 : Nat), rdRow w_11 b3 0 [.int .u64 HardTerm4, .int .i64 HardVote4, .int .u64 SnapIndex4, .int .u64 SnapTerm4, .int .u64 SnapConfig4, .string SnapData4, .slice Entriesa4 Entriesn4 Entriesc4] ∧
    R (.tuple #[.agg #[.int .u64 HardTerm4, .int .i64 HardVote4, .int .u64 SnapIndex4, .int .u64 SnapTerm4, .int .u64 SnapConfig4, .string SnapData4, .slice Entriesa4 Entriesn4 Entriesc4], .bool false]) w_11))))) := by
  obtain ⟨z1, z2, z3, z4, z5, z6, z7, rfl⟩ : ∃ z1 z2 z3 z4 z5 z6 z7, z = [z1, z2, z3, z4, z5, z6, z7] := by
    match z, hz with
    | [z1, z2, z3, z4, z5, z6, z7], _ => exact ⟨z1, z2, z3, z4, z5, z6, z7, rfl⟩
  obtain ⟨l, bad⟩ := rd
  refine ⟨_, _, _, _, _, _, _, _, _, H.f2.row rfl, _, H.cell rfl, bif_i (fun h => ?_) fun h => ?_⟩
  · have h : bad = false := by simpa using h
    subst h
    refine ⟨_, H.cell rfl, Has.st H.f1 (by simp) rfl fun w1 H => ⟨H.f1.cell rfl, H.f1.cell rfl, _, _, _, _, _, _, _, _, _, H.row rfl, ?_⟩⟩
    have := k w1 H.drop.drop.drop
    rw [strEq_nil]
    have e : Rd.done ⟨l, false⟩ = l.isEmpty := by simp [Rd.done]
    rw [e] at this
    exact this
  · have h : bad = true := by simpa using h
    subst h
    refine Has.st H.f1 (by simp) rfl fun w1 H => ⟨H.f1.cell rfl, _, _, _, _, _, _, _, _, _, H.row rfl, ?_⟩
    have := k w1 H.drop.drop.drop
    have e : Rd.done ⟨l, true⟩ = false := by simp [Rd.done]
    rw [e] at this
    exact this

/-- What the reference's take answers. -/
def takeR (w0 w' : World) (r : List A) (L : List (Option Addr × List Value)) (t : Option St) (v : Value) : Prop :=
  ∃ L', (∀ p ∈ L, p ∈ L') ∧ Has w0 w' (pl L' :: r) ∧ match t with
    | some s => ∃ a c, v = .tuple #[s.val a s.l.length c, .bool true] ∧ Rb w0 L' a (ecs s.l)
    | none => ∃ (s : St) (a : Option Addr) (n c : Nat), v = .tuple #[s.val a n c, .bool false]

theorem takeR_mk {w' : World} {d : Bool} {s2 : St} {a : Option Addr} {n c : Nat} {L' : List (Option Addr × List Value)} (hsub : ∀ p ∈ L, p ∈ L') (hn : n = s2.l.length) (hb : Rb w0 L' a (ecs s2.l)) (H : Has w0 w' (pl L' :: r)) :
    takeR w0 w' r L (if d = true then some s2 else none) (.tuple #[s2.val a n c, .bool d]) := by
  subst hn
  refine ⟨L', hsub, H, ?_⟩
  cases d with
  | true => exact ⟨a, c, rfl, hb⟩
  | false => exact ⟨s2, a, _, c, rfl⟩

theorem ref_tail2 {b2 b3 b4 n c : Nat} {a : Option Addr} {rd : Rd} {s2 : St} {z : List Value} {t : Option St} {q : List A} (hz : z.length = 7)
    (H : Has w0 w (rdA 155 b4 rd :: ca b3 53 z :: ca b2 53 (s2.cells a n c) :: q)) (k : ∀ w', Has w0 w' q → takeR w0 w' r L t (.tuple #[s2.val a n c, .bool rd.done])) :
    (∃ HardTerm2 : Int, ∃ HardVote2 : Int, ∃ SnapIndex2 : Int, ∃ SnapTerm2 : Int, ∃ SnapConfig2 : Int, ∃ SnapData2 : ByteArray, ∃ (Entriesa2 : Option Addr) (Entriesn2 Entriesc2 : Nat), rdRow w b2 0 [.int .u64 HardTerm2, .int .i64 HardVote2, .int .u64 SnapIndex2, .int .u64 SnapTerm2, .int .u64 SnapConfig2, .string SnapData2, .slice Entriesa2 Entriesn2 Entriesc2] ∧
    (∃ v1 : Bool, World.cell? w ⟨b4, 1, none⟩ = some (.bool v1) ∧ (bif (!v1) then (∃ v2 : ByteArray, World.cell? w ⟨b4, 0, none⟩ = some (.string v2) ∧
    (stD w b3 0 [.int .u64 HardTerm2, .int .i64 HardVote2, .int .u64 SnapIndex2, .int .u64 SnapTerm2, .int .u64 SnapConfig2, .string SnapData2, .slice Entriesa2 Entriesn2 Entriesc2] fun w_10 =>
    World.cell? w_10 ⟨b4, 0, none⟩ = some (.string v2) ∧ World.cell? w_10 ⟨b4, 1, none⟩ = some (.bool v1) ∧
    (∃ HardTerm3 : Int, ∃ HardVote3 : Int, ∃ SnapIndex3 : Int, ∃ SnapTerm3 : Int, ∃ SnapConfig3 : Int, ∃ SnapData3 : ByteArray, ∃ (Entriesa3 : Option Addr) (Entriesn3 Entriesc3 : Nat), rdRow w_10 b3 0 [.int .u64 HardTerm3, .int .i64 HardVote3, .int .u64 SnapIndex3, .int .u64 SnapTerm3, .int .u64 SnapConfig3, .string SnapData3, .slice Entriesa3 Entriesn3 Entriesc3] ∧
    takeR w0 w_10 r L t (.tuple #[.agg #[.int .u64 HardTerm3, .int .i64 HardVote3, .int .u64 SnapIndex3, .int .u64 SnapTerm3, .int .u64 SnapConfig3, .string SnapData3, .slice Entriesa3 Entriesn3 Entriesc3], .bool (strEq v2 ⟨#[]⟩)]))))
     else (stD w b3 0 [.int .u64 HardTerm2, .int .i64 HardVote2, .int .u64 SnapIndex2, .int .u64 SnapTerm2, .int .u64 SnapConfig2, .string SnapData2, .slice Entriesa2 Entriesn2 Entriesc2] fun w_11 =>
    World.cell? w_11 ⟨b4, 1, none⟩ = some (.bool v1) ∧
    (∃ HardTerm4 : Int, ∃ HardVote4 : Int, ∃ SnapIndex4 : Int, ∃ SnapTerm4 : Int, ∃ SnapConfig4 : Int, ∃ SnapData4 : ByteArray, ∃ (Entriesa4 : Option Addr) (Entriesn4 Entriesc4 : Nat), rdRow w_11 b3 0 [.int .u64 HardTerm4, .int .i64 HardVote4, .int .u64 SnapIndex4, .int .u64 SnapTerm4, .int .u64 SnapConfig4, .string SnapData4, .slice Entriesa4 Entriesn4 Entriesc4] ∧
    takeR w0 w_11 r L t (.tuple #[.agg #[.int .u64 HardTerm4, .int .i64 HardVote4, .int .u64 SnapIndex4, .int .u64 SnapTerm4, .int .u64 SnapConfig4, .string SnapData4, .slice Entriesa4 Entriesn4 Entriesc4], .bool false])))))) :=
  ref_tail (R := fun v w' => takeR w0 w' r L t v) hz H k

theorem ref08_take_spec (hs : s.ok) (hlen : s.l.length + 1 ≤ 1000000000) {d : List UInt8} (hd : d.length ≤ 4611686018427387904) {a : Option Addr} {c : Nat} (hb : Rb w0 L a (ecs s.l)) (H : Has w0 w (pl L :: r)) :
    Calls Tryz.prog 58 #[s.val a s.l.length c, .string (bs d)] w fun e w' => ∃ v, e = .returned v ∧ takeR w0 w' r L (take s d) v := by
  refine tontineref08_take.ok _ _ _ _ _ _ _ _ _ _ ?_
  refine H.al fun b2 w1 H => H.al fun b3 w2 H => H.al fun b4 w3 H => ?_
  have H : Has w0 w3 (rdA 155 b4 ⟨d, false⟩ :: ca b3 53 (zero8.cells none 0 0) :: ca b2 53 (s.cells a s.l.length c) :: pl L :: r) := H
  refine (ref03_Reader_Num_spec H hd).mono ?_
  rintro e w4 ⟨v, rfl, rfl, H⟩
  have l1 := Rd.num_len ⟨d, false⟩
  have l1 : (Rd.num ⟨d, false⟩).2.l.length ≤ d.length := l1
  unfold take
  generalize hk : Rd.num ⟨d, false⟩ = k at l1 H ⊢
  clear hk
  simp only []
  have z7 : (zero8.cells none 0 0).length = 7 := rfl
  refine ⟨_, rfl, bif_i (fun h => ?_) fun h => ?_⟩
  · have h : k.1 = 1 := by simp at h; omega
    rw [if_pos h]
    refine (ref03_Reader_Num_spec H (by omega)).mono ?_
    rintro e w5 ⟨v, rfl, rfl, H⟩
    have l2 := Rd.num_len k.2
    refine ⟨_, rfl, Has.st H.f2 (by simp [St.cells]) rfl fun w6 H => ?_⟩
    refine (ref03_Reader_Up_spec (k := 7) H.f1 (by omega) (by omega)).mono ?_
    rintro e w7 ⟨v, rfl, rfl, H⟩
    have hv := Rd.up_le k.2.num.2 7
    refine ⟨_, rfl, Has.st H.f1 (by simp [St.cells, wr]) rfl fun w8 H => H.dr fun w9 H => ?_⟩
    rw [w64_id (by omega)] at H
    exact ref_tail2 (s2 := { s with term := k.2.num.1, vote := ((k.2.num.2.up 7).1 : Int) - 1 }) z7 H.b2 fun w' H => takeR_mk (fun _ h => h) rfl hb H
  have h : ¬ k.1 = 1 := by simp at h; omega
  rw [if_neg h]
  refine bif_i (fun h => ?_) fun h => ?_
  · have h : k.1 = 2 := by simp at h; omega
    rw [if_pos h]
    refine (ref03_Reader_Num_spec H (by omega)).mono ?_
    rintro e w5 ⟨v, rfl, rfl, H⟩
    have l2 := Rd.num_len k.2
    refine ⟨_, rfl, H.al fun b5 w6 H => H.st (by simp) rfl fun w7 H => ?_⟩
    refine (ref03_Reader_Num_spec H.f1 (by omega)).mono ?_
    rintro e w8 ⟨v, rfl, rfl, H⟩
    have l3 := Rd.num_len k.2.num.2
    refine ⟨_, rfl, Has.st H.f1 (by simp [wr]) rfl fun w9 H => ?_⟩
    refine (ref03_Reader_Up_spec (k := 2) H.f1 (by omega) (by omega)).mono ?_
    rintro e w10 ⟨v, rfl, rfl, H⟩
    have l4 := Rd.up_len k.2.num.2.num.2 2
    refine ⟨_, rfl, Has.st H.f1 (by simp [wr]) rfl fun w11 H => ?_⟩
    refine (ref03_Reader_Text_spec (k := 65536) H.f1 (by omega) (by omega)).mono ?_
    rintro e w12 ⟨v, rfl, rfl, H⟩
    refine ⟨_, rfl, Has.st H.f1 (by simp [wr]) rfl fun w13 H => H.dr fun w14 H => ?_⟩
    have H : Has w0 w14 (ca b5 69 (Ent.cells ⟨k.2.num.1, k.2.num.2.num.1, ((k.2.num.2.num.2.up 2).1 : Int), ((k.2.num.2.num.2.up 2).2.text 65536).1⟩) :: rdA 155 b4 ((k.2.num.2.num.2.up 2).2.text 65536).2 :: ca b3 53 (zero8.cells none 0 0) :: ca b2 53 (s.cells a s.l.length c) :: pl L :: r) := H
    have e2 : ecs s.l ++ Ent.cells ⟨k.2.num.1, k.2.num.2.num.1, ((k.2.num.2.num.2.up 2).1 : Int), ((k.2.num.2.num.2.up 2).2.text 65536).1⟩ = ecs (s.l ++ [⟨k.2.num.1, k.2.num.2.num.1, ((k.2.num.2.num.2.up 2).1 : Int), ((k.2.num.2.num.2.up 2).2.text 65536).1⟩]) := by rw [← ecs_append]; simp [ecs]
    refine ⟨_, _, _, H.f3.cell rfl, _, _, _, _, H.row rfl, ?_, ?_⟩
    · refine Has.app0 elE H ((hb.vw H.f4).src elE (by simp) (ecs_one s.l)) (by omega) (by simp [maxLen]; omega) fun a1 c1 w15 H => ⟨H.f1.row rfl, H.al fun b6 w16 H => ?_⟩
      refine Has.app (m := 1) elE H.f1 (H.src (vs := Ent.cells ⟨k.2.num.1, k.2.num.2.num.1, ((k.2.num.2.num.2.up 2).1 : Int), ((k.2.num.2.num.2.up 2).2.text 65536).1⟩) elE rfl rfl) (by omega) (by simp [maxLen]; omega) fun a2 c2 w17 H => ?_
      rw [e2] at H
      have H := H.f1.drop.f1.drop
      refine Has.st H.f3 (by simp [St.cells]) rfl fun w18 H => H.dr fun w19 H => ?_
      refine ref_tail2 (s2 := { s with l := s.l ++ [⟨k.2.num.1, k.2.num.2.num.1, ((k.2.num.2.num.2.up 2).1 : Int), ((k.2.num.2.num.2.up 2).2.text 65536).1⟩] }) (a := a2) (n := s.l.length + 1) (c := c2) z7 H.f1.b3.b2 fun w' H => ?_
      exact takeR_mk (fun _ h => .tail _ h) (by simp) Rb.hd H.plAdd
    · refine H.al fun b7 w15 H => ⟨H.f4.cell rfl, ?_⟩
      refine Has.app0 elE H ((hb.vw H.f5).src elE (by simp) (ecs_one s.l)) (by omega) (by simp [maxLen]; omega) fun a1 c1 w16 H => ?_
      refine Has.app (m := 1) elE H (H.f1.src (vs := Ent.cells ⟨k.2.num.1, k.2.num.2.num.1, ((k.2.num.2.num.2.up 2).1 : Int), ((k.2.num.2.num.2.up 2).2.text 65536).1⟩) elE rfl rfl) (by omega) (by simp [maxLen]; omega) fun a2 c2 w17 H => ?_
      rw [e2] at H
      have H := H.f1.drop.f1.drop
      refine Has.st H.f3 (by simp [St.cells]) rfl fun w18 H => H.dr fun w19 H => ?_
      refine ref_tail2 (s2 := { s with l := s.l ++ [⟨k.2.num.1, k.2.num.2.num.1, ((k.2.num.2.num.2.up 2).1 : Int), ((k.2.num.2.num.2.up 2).2.text 65536).1⟩] }) (a := a2) (n := s.l.length + 1) (c := c2) z7 H.f1.b3.b2 fun w' H => ?_
      exact takeR_mk (fun _ h => .tail _ h) (by simp) Rb.hd H.plAdd
  have h2 : ¬ k.1 = 2 := by simp at h; omega
  rw [if_neg h2]
  refine bif_i (fun h => ?_) fun h => ?_
  · have h : k.1 = 3 := by simp at h; omega
    rw [if_pos h]
    refine (ref03_Reader_Num_spec H (by omega)).mono ?_
    rintro e w5 ⟨v, rfl, rfl, H⟩
    refine ⟨_, rfl, ?_⟩
    refine ⟨fun la ln lc i w' => ∃ m : Nat, i = (m : Int) ∧ m ≤ s.l.length ∧ ln = m ∧ (∀ j (hj : j < m) (hl : j < s.l.length), (s.l[j]).index < k.2.num.1) ∧ Has w0 w' (ow 69 4 la ln lc (ecs (s.l.take m)) :: rdA 155 b4 k.2.num.2 :: ca b3 53 (zero8.cells none 0 0) :: ca b2 53 (s.cells a s.l.length c) :: pl L :: r), fun _ _ _ i _ => s.l.length + 1 - i.toNat, ⟨0, rfl, by omega, rfl, fun j hj => by omega, H.mkow0 _ 4⟩, ?_⟩
    clear H
    rintro _ la ln lc i w6 ⟨m, rfl, hm, hln, hall, H⟩
    subst hln
    have htw : (∀ h : ln < s.l.length, ¬ (s.l[ln]).index < k.2.num.1) → (s.l.takeWhile fun e => decide (e.index < k.2.num.1)) = s.l.take ln := fun hstop =>
      takeWhile_is hm (fun j hj => decide_eq_true (hall j hj (by omega))) (fun h => decide_eq_false (hstop h))
    have hlen2 : (∀ h : ln < s.l.length, ¬ (s.l[ln]).index < k.2.num.1) → ln = (s.l.takeWhile fun e => decide (e.index < k.2.num.1)).length := fun hstop => by rw [htw hstop]; simp; omega
    refine ⟨_, _, _, H.f3.cell rfl, bif_i (fun h4 => ?_) fun h4 => ?_⟩
    · have h4 : ln < s.l.length := by simp at h4; omega
      obtain ⟨b1, o1, hb1, hc1⟩ := (hb.vw H.f4).entAt (i := ln) (j := 1) h4 rfl
      refine ⟨_, _, _, H.f3.cell rfl, b1, o1, hb1, by omega, by omega, _, hc1, bif_i (fun h5 => ?_) fun h5 => ?_⟩
      · have h5 : (s.l[ln]).index < k.2.num.1 := by simp at h5; omega
        obtain ⟨b6, o6, hb6, hr6⟩ := (hb.vw H.f4).ent (i := ln) h4
        refine ⟨_, _, _, H.f3.cell rfl, b6, o6, hb6, by omega, by omega, _, _, _, _, hr6, H.al fun b7 w7 H => ?_⟩
        refine Has.app (m := 1) elE H.f1 (H.src (vs := s.l[ln].cells) elE rfl rfl) (by omega) (by simp [maxLen]; omega) fun a8 c8 w8 H => ?_
        rw [w64_id (by omega)]
        refine ⟨⟨ln + 1, by omega, h4, rfl, fun j hj hl => ?_, ?_⟩, by dsimp only; omega⟩
        · by_cases hjm : j = ln
          · subst hjm; exact h5
          · exact hall j (by omega) hl
        · have e2 : ecs (s.l.take ln) ++ s.l[ln].cells = ecs (s.l.take (ln + 1)) := by rw [List.take_succ_eq_append_getElem h4, ← ecs_append]; simp [ecs]
          rw [e2] at H
          exact H.f1.drop
      · have h5 : ¬ (s.l[ln]).index < k.2.num.1 := by simp at h5; omega
        refine Has.st H.f3 (by simp [St.cells]) rfl fun w7 H => H.dr fun w8 H => ?_
        exact ref_tail2 (s2 := { s with l := s.l.takeWhile fun e => decide (e.index < k.2.num.1) }) (a := la) (n := ln) (c := lc) z7 H.f1.b3.b2 fun w' H => takeR_mk (fun _ h => .tail _ h) (hlen2 fun _ => h5) (by dsimp only; rw [htw fun _ => h5]; exact Rb.hd) H.plAdd
    · have h4 : ln = s.l.length := by simp at h4; omega
      refine Has.st H.f3 (by simp [St.cells]) rfl fun w7 H => H.dr fun w8 H => ?_
      exact ref_tail2 (s2 := { s with l := s.l.takeWhile fun e => decide (e.index < k.2.num.1) }) (a := la) (n := ln) (c := lc) z7 H.f1.b3.b2 fun w' H => takeR_mk (fun _ h => .tail _ h) (hlen2 fun h => by omega) (by dsimp only; rw [htw fun h => by omega]; exact Rb.hd) H.plAdd
  have h3 : ¬ k.1 = 3 := by simp at h; omega
  rw [if_neg h3]
  refine bif_i (fun h => ?_) fun h => ?_
  · have h : k.1 = 4 := by simp at h; omega
    rw [if_pos h]
    refine (ref03_Reader_Num_spec H (by omega)).mono ?_
    rintro e w5 ⟨v, rfl, rfl, H⟩
    have l2 := Rd.num_len k.2
    refine ⟨_, rfl, Has.st H.f2 (by simp [St.cells]) rfl fun w6 H => ?_⟩
    refine (ref03_Reader_Num_spec H.f1 (by omega)).mono ?_
    rintro e w7 ⟨v, rfl, rfl, H⟩
    have l3 := Rd.num_len k.2.num.2
    refine ⟨_, rfl, Has.st H.f1 (by simp [St.cells, wr]) rfl fun w8 H => ?_⟩
    refine (ref03_Reader_Num_spec H.f1 (by omega)).mono ?_
    rintro e w9 ⟨v, rfl, rfl, H⟩
    have l4 := Rd.num_len k.2.num.2.num.2
    refine ⟨_, rfl, Has.st H.f1 (by simp [St.cells, wr]) rfl fun w10 H => ?_⟩
    refine (ref03_Reader_Text_spec (k := 65536) H.f1 (by omega) (by omega)).mono ?_
    rintro e w11 ⟨v, rfl, rfl, H⟩
    refine ⟨_, rfl, Has.st H.f1 (by simp [St.cells, wr]) rfl fun w12 H => Has.st H (by simp [St.cells, wr]) rfl fun w13 H => H.dr fun w14 H => ?_⟩
    exact ref_tail2 (s2 := { s with snap := ⟨k.2.num.1, k.2.num.2.num.1, k.2.num.2.num.2.num.1, (k.2.num.2.num.2.num.2.text 65536).1⟩, l := [] }) (a := none) (n := 0) (c := 0) z7 H.b2 fun w' H => takeR_mk (fun _ h => h) rfl Rb.nil H
  have h4 : ¬ k.1 = 4 := by simp at h; omega
  rw [if_neg h4]
  refine ⟨_, _, _, _, _, _, _, _, _, H.f2.row rfl, ?_⟩
  exact Has.st H.f1 (by simp [St.cells]) rfl fun w5 H => ⟨_, _, _, _, _, _, _, _, _, H.row rfl, L, fun _ h => h, H.drop.drop.drop, s, _, _, _, rfl⟩

end
end Go.Proofs.YtbcepafeiocobaaGreat
