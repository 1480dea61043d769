/-
  The reference of layer 9 (wheel): drop, Stop, Set, Next, Tick; numbers compared.
-/
import Derived.Test.YtdlalkhnppahfaaXWheelK
set_option maxRecDepth 8000
namespace Go.X
open Go

def uc (l : List Nat) : List Value := l.map fun (n : Nat) => .int .u64 (n : Int)
@[simp] theorem uc_length (l : List Nat) : (uc l).length = l.length := by simp [uc]
theorem ic_one (l : List Int) : ∀ x ∈ ic l, x.oneCell' = true := fun x hx => by obtain ⟨_, _, rfl⟩ := List.mem_map.1 hx; rfl
theorem uc_one (l : List Nat) : ∀ x ∈ uc l, x.oneCell' = true := fun x hx => by obtain ⟨_, _, rfl⟩ := List.mem_map.1 hx; rfl
theorem mem_take_one {vs : List Value} (h : ∀ x ∈ vs, x.oneCell' = true) (k : Nat) : ∀ x ∈ vs.take k, x.oneCell' = true := fun x hx => h x (List.mem_of_mem_take hx)
theorem mem_drop_one {vs : List Value} (h : ∀ x ∈ vs, x.oneCell' = true) (k : Nat) : ∀ x ∈ vs.drop k, x.oneCell' = true := fun x hx => h x (List.mem_of_mem_drop hx)

/-- One cell of a row. -/
theorem Vw.one {w : World} {a : Option Addr} {vs : List Value} (h : Vw w a vs) {i : Nat} {v : Value} (hi : vs[i]? = some v) : ∃ b o, a = some ⟨b, o, none⟩ ∧ w.cell? ⟨b, o + ((i : Int)).toNat * 1, none⟩ = some v := by
  have hl := (List.getElem?_eq_some_iff.1 hi).1
  obtain ⟨b, o, rfl, hc⟩ := h.at (by omega)
  exact ⟨b, o, rfl, by rw [Int.toNat_natCast, Nat.mul_one]; exact hc i v hi⟩

theorem erase_map {α β : Type} (f : α → β) : ∀ (l : List α) (i : Nat), (l.eraseIdx i).map f = (l.map f).eraseIdx i
  | [], _ => rfl
  | _ :: _, 0 => rfl
  | x :: l, i + 1 => by rw [List.eraseIdx_cons_succ, List.map_cons, List.map_cons, List.eraseIdx_cons_succ, erase_map f l i]

theorem erase_filter : ∀ {L : List (Int × Nat)} {i : Nat} {id : Int}, (L.map (·.1)).Nodup → (hi : i < L.length) → L[i].1 = id → L.eraseIdx i = L.filter fun p => p.1 != id
  | x :: L, 0, id, hnd, _, he => by
    rw [List.map_cons, List.nodup_cons] at hnd
    have he : x.1 = id := he
    rw [List.filter_cons_of_neg (by simp [he])]
    exact (List.filter_eq_self.2 fun y hy => by
      have : y.1 ≠ id := fun e => hnd.1 (List.mem_map.2 ⟨y, hy, by rw [e, he]⟩)
      simpa using this).symm
  | x :: L, i + 1, id, hnd, hi, he => by
    rw [List.map_cons, List.nodup_cons] at hnd
    have hi' : i < L.length := by simpa using hi
    have he : L[i].1 = id := by simpa using he
    have hx : x.1 ≠ id := fun e => hnd.1 (List.mem_map.2 ⟨L[i], List.getElem_mem hi', by rw [he, e]⟩)
    rw [List.filter_cons_of_pos (by simpa using hx), List.eraseIdx_cons_succ, erase_filter hnd.2 hi' he]

end Go.X
namespace Go.Proofs.Ytdlalkhnppahfaa
open Go.X

theorem elU : El Try.prog 40 33 1 8 := El.of (by kernel_rfl)

/-- The reference's wheel. -/
abbrev rf (b now : Nat) (a1 : Option Addr) (c1 : Nat) (a2 : Option Addr) (c2 : Nat) (L : List (Int × Nat)) (r : List A) : List A :=
  ca b 42 [.int .u64 (now : Int), .slice a1 L.length c1, .slice a2 L.length c2] :: ow 3 1 a1 L.length c1 (ic (L.map (·.1))) :: ow 33 1 a2 L.length c2 (uc (L.map (·.2))) :: r

section
variable {w0 w : World} {r : List A} {b now c1 c2 : Nat} {a1 a2 : Option Addr} {L : List (Int × Nat)}

theorem ref_drop_spec {i : Nat} (hi : i < L.length) (hle : L.length ≤ 1000) (H : Has w0 w (rf b now a1 c1 a2 c2 L r)) :
    Calls Try.prog 28 #[pv b 0, .int .i64 i] w fun e w' => ∃ v, e = .returned v ∧ v = .tuple #[] ∧ ∃ a1 c1 a2 c2, Has w0 w' (rf b now a1 c1 a2 c2 (L.eraseIdx i) r) := by
  refine tontineref09_Wheel_drop.ok _ _ _ ?_
  have e1 : w64 ((i : Int) + 1) = ((i + 1 : Nat) : Int) := by rw [w64_id (by omega)]; rfl
  have hc1 := (Has.owLen H.f1).2.1
  have hc2 := (Has.owLen H.f2).2.1
  have hlen : i + (L.length - (i + 1)) = (L.eraseIdx i).length := by rw [List.length_eraseIdx, if_pos hi]; omega
  have hI : (ic (L.map (·.1))).take i ++ (ic (L.map (·.1))).drop (i + 1) = ic ((L.eraseIdx i).map (·.1)) := by
    rw [erase_map, List.eraseIdx_eq_take_drop_succ]; simp [ic]
  have hU : (uc (L.map (·.2))).take i ++ (uc (L.map (·.2))).drop (i + 1) = uc ((L.eraseIdx i).map (·.2)) := by
    rw [erase_map, List.eraseIdx_eq_take_drop_succ]; simp [uc]
  refine H.dr fun w1 H => ⟨_, _, _, H.cell rfl, by omega, by omega, _, _, _, H.cell rfl, by omega, by omega, ?_⟩
  rw [e1, Int.toNat_natCast, Int.toNat_natCast]
  have hv : Vw w1 a1 (ic (L.map (·.1))) := Has.vw H.f1
  refine Has.app0 (m := i) elI H ((hv.take i).src elI (by simp; omega) (mem_take_one (ic_one _) i)) (by omega) (by simp [maxLen]; omega) fun a5 c5 w2 H => ⟨H.f1.cell rfl, H.f1.cell rfl, ?_⟩
  have hv : Vw w2 a1 (ic (L.map (·.1))) := Has.vw H.f2
  have hv2 := hv.slc (k := i + 1) (c := c1) (size := 1) (by simp; omega)
  rw [Nat.mul_one] at hv2
  refine Has.app (m := L.length - (i + 1)) elI H (hv2.src elI (by simp) (mem_drop_one (ic_one _) _)) (by omega) (by simp [maxLen]; omega) fun a6 c6 w3 H => ⟨H.f1.cell rfl, H.f1.cell rfl, ?_⟩
  rw [hI, hlen] at H
  rw [hlen]
  refine Has.st H.f1 (by simp) rfl fun w4 H => H.dr fun w5 H => ⟨_, _, _, H.cell rfl, by omega, by omega, _, _, _, H.cell rfl, by omega, by omega, ?_⟩
  have H := Has.rm H [2]
  have hv : Vw w5 a2 (uc (L.map (·.2))) := Has.vw H.f2
  refine Has.app0 (m := i) elU H ((hv.take i).src elU (by simp; omega) (mem_take_one (uc_one _) i)) (by omega) (by simp [maxLen]; omega) fun a7 c7 w6 H => ⟨H.f1.cell rfl, H.f1.cell rfl, ?_⟩
  have hv : Vw w6 a2 (uc (L.map (·.2))) := Has.vw H.f3
  have hv2 := hv.slc (k := i + 1) (c := c2) (size := 1) (by simp; omega)
  rw [Nat.mul_one] at hv2
  refine Has.app (m := L.length - (i + 1)) elU H (hv2.src elU (by simp) (mem_drop_one (uc_one _) _)) (by omega) (by simp [maxLen]; omega) fun a8 c8 w7 H => ⟨H.f1.cell rfl, H.f1.cell rfl, ?_⟩
  rw [hU, hlen] at H
  rw [hlen]
  refine Has.st H.f1 (by simp [wr]) rfl fun w8 H => ⟨rfl, a6, c6, a8, c8, ?_⟩
  exact Has.ro (Has.rm H [3]) [0, 2, 1]

theorem ref_Stop_spec {id : Int} (hnd : (L.map (·.1)).Nodup) (hle : L.length ≤ 1000) (H : Has w0 w (rf b now a1 c1 a2 c2 L r)) :
    Calls Try.prog 17 #[pv b 0, .int .i64 id] w fun e w' => ∃ v, e = .returned v ∧ ∃ q : Bool, v = .bool q ∧ (q = true ↔ ∃ p ∈ L, p.1 = id) ∧ ∃ a1 c1 a2 c2, Has w0 w' (rf b now a1 c1 a2 c2 (L.filter fun p => p.1 != id) r) := by
  refine tontineref09_Wheel_Stop.ok _ _ _ ?_
  refine ⟨fun i w' => ∃ k : Nat, i = (k : Int) ∧ k ≤ L.length ∧ (∀ p ∈ L.take k, p.1 ≠ id) ∧ Has w0 w' (rf b now a1 c1 a2 c2 L r), fun i _ => L.length + 1 - i.toNat, ⟨0, rfl, by omega, by simp, H⟩, ?_⟩
  clear H
  rintro _ i w1 ⟨k, rfl, hk, hno, H⟩
  refine ⟨_, _, _, H.cell rfl, bif_i (fun h => ?_) fun h => ?_⟩
  · have h : k < L.length := by simp at h; omega
    have e2 : w64 ((k : Int) + 1) = ((k + 1 : Nat) : Int) := by rw [w64_id (by omega)]; rfl
    have hv : Vw w1 a1 (ic (L.map (·.1))) := Has.vw H.f1
    obtain ⟨b3, o3, hb3, hc3⟩ := hv.one (i := k) (v := .int .i64 L[k].1) (by simp [ic, h])
    refine ⟨_, _, _, H.cell rfl, b3, o3, hb3, by omega, by omega, _, hc3, bif_i (fun h2 => ?_) fun h2 => ?_⟩
    · have h2 : L[k].1 = id := by simpa using h2
      refine (ref_drop_spec h hle H).mono ?_
      rintro e w2 ⟨v, rfl, rfl, a3, c3, a4, c4, H⟩
      rw [erase_filter hnd h h2] at H
      exact ⟨rfl, true, rfl, ⟨fun _ => ⟨_, List.getElem_mem h, h2⟩, fun _ => rfl⟩, a3, c3, a4, c4, H⟩
    · have h2 : ¬ L[k].1 = id := by simpa using h2
      rw [e2]
      refine ⟨⟨k + 1, rfl, h, fun p hp => ?_, H⟩, by (try dsimp only); omega⟩
      rw [List.take_succ_eq_append_getElem h] at hp
      rcases List.mem_append.1 hp with hp | hp
      · exact hno p hp
      · simp at hp; subst hp; exact h2
  · have h : k = L.length := by simp at h; omega
    subst h
    rw [List.take_length] at hno
    refine ⟨false, rfl, ⟨fun h => (by cases h), fun ⟨p, hp, e⟩ => absurd e (hno p hp)⟩, a1, c1, a2, c2, ?_⟩
    rw [filter_none hno]; exact H

theorem ref_Set_spec {id delay : Int} (hnd : (L.map (·.1)).Nodup) (hle : L.length ≤ 64) (hnow : now < 2097152) (H : Has w0 w (rf b now a1 c1 a2 c2 L r)) :
    Calls Try.prog 16 #[pv b 0, .int .i64 id, .int .i64 delay] w fun e w' => ∃ v, e = .returned v ∧ v = .int .i64 (setR now L id delay).1 ∧ ∃ a1 c1 a2 c2, Has w0 w' (rf b now a1 c1 a2 c2 (setR now L id delay).2 r) := by
  refine tontineref09_Wheel_Set.ok _ _ _ _ ?_
  unfold setR
  refine bif_i (fun h1 => ?_) fun h1 => bif_i (fun h2 => ?_) fun h2 => ?_
  · rw [if_pos (.inl (by simpa using h1))]
    exact ⟨rfl, a1, c1, a2, c2, H⟩
  · rw [if_pos (.inr (by simpa using h2))]
    exact ⟨rfl, a1, c1, a2, c2, H⟩
  · simp only [decide_eq_false_iff_not] at h1 h2
    rw [if_neg (by omega)]
    refine ⟨fun w' => ¬ (L.length = 64 ∧ ∀ p ∈ L, p.1 ≠ id) ∧ ∃ a1 c1 a2 c2, Has w0 w' (rf b now a1 c1 a2 c2 (L.filter fun p => p.1 != id) r), ?_, ?_⟩
    · refine (ref_Stop_spec hnd (by omega) H).mono ?_
      rintro e w1 ⟨v, rfl, q, rfl, hq, a3, c3, a4, c4, H⟩
      refine ⟨q, rfl, ?_⟩
      cases q
      · have hno : ∀ p ∈ L, p.1 ≠ id := fun p hp e => by cases hq.2 ⟨p, hp, e⟩
        rw [filter_none hno] at H ⊢
        refine bif_t rfl ⟨_, _, _, H.cell rfl, bif_i (fun h3 => ?_) fun h3 => ?_⟩
        · have h3 : (L.length : Int) = 64 := by simpa using h3
          rw [if_pos ⟨by omega, hno⟩]
          exact ⟨rfl, a3, c3, a4, c4, H⟩
        · have h3 : ¬ (L.length : Int) = 64 := by simpa using h3
          exact ⟨fun hc => h3 (by omega), a3, c3, a4, c4, H⟩
      · refine bif_f rfl ⟨fun hc => ?_, a3, c3, a4, c4, H⟩
        obtain ⟨p, hp, e⟩ := hq.1 rfl
        exact hc.2 p hp e
    · clear H
      rintro _ w1 ⟨hc, a3, c3, a4, c4, H⟩
      rw [if_neg hc]
      generalize hM : L.filter (fun p => p.1 != id) = M at H
      have hMl : M.length ≤ L.length := by rw [← hM]; exact List.length_filter_le _ _
      have e1 : wu64 ((now : Int) + wu64 delay) = ((now + delay.toNat : Nat) : Int) := by
        rw [wu64_id (n := delay) (by omega), wu64_id (by omega)]; omega
      refine ⟨_, _, _, H.cell rfl, H.al fun b5 w2 H => ?_⟩
      have H := Has.ro H [2]
      refine Has.app (m := 1) elI H (Has.src (vs := [.int .i64 id]) elI H.f1 rfl rfl) (by omega) (by simp [maxLen]; omega) fun a6 c6 w3 H => Has.st H.f2 (by simp) rfl fun w4 H => H.dr fun w5 H => ⟨_, _, _, H.cell rfl, _, H.cell rfl, H.al fun b7 w6 H => ⟨H.f1.cell rfl, H.f1.cell rfl, ?_⟩⟩
      rw [e1] at H
      have H := Has.ro H [4]
      refine Has.app (m := 1) elU H (Has.src (vs := [.int .u64 ((now + delay.toNat : Nat) : Int)]) elU H.f1 rfl rfl) (by omega) (by simp [maxLen]; omega) fun a8 c8 w7 H => ⟨H.f2.cell rfl, Has.st H.f2 (by simp [wr]) rfl fun w8 H => ⟨rfl, a6, c6, a8, c8, ?_⟩⟩
      have hI : ic (M.map (·.1)) ++ [.int .i64 id] = ic ((M ++ [(id, now + delay.toNat)]).map (·.1)) := by simp [ic]
      have hU : uc (M.map (·.2)) ++ [.int .u64 ((now + delay.toNat : Nat) : Int)] = uc ((M ++ [(id, now + delay.toNat)]).map (·.2)) := by simp [uc]
      have hl : M.length + 1 = (M ++ [(id, now + delay.toNat)]).length := by simp
      rw [hI, hU, hl] at H
      exact Has.ro (Has.rm H [2, 4]) [0, 2, 1]

theorem ref_Next_spec (hle : L.length ≤ 1000) (hnow : now < 2097152) (hd : ∀ p ∈ L, now < p.2 ∧ p.2 < 18446744073709551616) (H : Has w0 w (rf b now a1 c1 a2 c2 L r)) :
    Calls Try.prog 21 #[pv b 0] w fun e w' => ∃ v, e = .returned v ∧ v = .int .u64 (nxt now L : Int) ∧ Has w0 w' (rf b now a1 c1 a2 c2 L r) := by
  refine tontineref09_Wheel_Next.ok _ _ ?_
  refine ⟨fun best i w' => ∃ k : Nat, i = (k : Int) ∧ k ≤ L.length ∧ best = (nxt now (L.take k) : Int) ∧ Has w0 w' (rf b now a1 c1 a2 c2 L r), fun _ i _ => L.length + 1 - i.toNat, ⟨0, rfl, by omega, rfl, H⟩, ?_⟩
  clear H
  rintro _ best i w1 ⟨k, rfl, hk, rfl, H⟩
  refine ⟨_, _, _, H.cell rfl, bif_i (fun h => ?_) fun h => ?_⟩
  · have h : k < L.length := by simp at h; omega
    have e2 : w64 ((k : Int) + 1) = ((k + 1 : Nat) : Int) := by rw [w64_id (by omega)]; rfl
    have hdk := hd _ (List.getElem_mem h)
    refine H.dr fun w2 H => ?_
    have hv : Vw w2 a2 (uc (L.map (·.2))) := Has.vw H.f2
    obtain ⟨b3, o3, hb3, hc3⟩ := hv.one (i := k) (v := .int .u64 (L[k].2 : Int)) (by simp [uc, h])
    have e3 : wu64 ((L[k].2 : Int) - (now : Int)) = ((L[k].2 - now : Nat) : Int) := by rw [wu64_id (by omega)]; omega
    refine ⟨_, _, _, H.cell rfl, b3, o3, hb3, by omega, by omega, _, hc3, _, H.cell rfl, ?_⟩
    rw [e3, e2]
    have hM : L.length + 1 - ((k + 1 : Nat) : Int).toNat < L.length + 1 - ((k : Nat) : Int).toNat := by omega
    have hs : nxt now (L.take (k + 1)) = if nxt now (L.take k) = 0 ∨ L[k].2 - now < nxt now (L.take k) then L[k].2 - now else nxt now (L.take k) := by
      rw [List.take_succ_eq_append_getElem h]
      unfold nxt
      rw [List.foldl_append]; rfl
    have hz : nxt now (L.take k) = 0 ↔ k = 0 := by
      rw [nxt_zero fun p hp => (hd p (List.mem_of_mem_take hp)).1, List.length_take]; omega
    refine bif_i (fun h2 => ?_) fun h2 => bif_i (fun h3 => ?_) fun h3 => ?_
    · have h2 : k = 0 := by simp at h2; omega
      refine ⟨⟨k + 1, rfl, h, ?_, H⟩, hM⟩
      rw [hs, if_pos (.inl (hz.2 h2))]
    · have h3 : L[k].2 - now < nxt now (L.take k) := by simp at h3; omega
      refine ⟨⟨k + 1, rfl, h, ?_, H⟩, hM⟩
      rw [hs, if_pos (.inr h3)]
    · have h2 : k ≠ 0 := by
        intro e; subst e; simp at h2
      have h3 : ¬ L[k].2 - now < nxt now (L.take k) := by simp at h3; omega
      refine ⟨⟨k + 1, rfl, h, ?_, H⟩, hM⟩
      rw [hs, if_neg]
      rintro (e | e)
      · exact h2 (hz.1 e)
      · exact h3 e
  · have h : k = L.length := by simp at h; omega
    subst h
    rw [List.take_length]
    exact ⟨rfl, H⟩

theorem ref_Tick_spec (hle : L.length ≤ 1000) (hnow : now + 1 < 2097152) (H : Has w0 w (rf b now a1 c1 a2 c2 L r)) :
    Calls Try.prog 19 #[pv b 0] w fun e w' => ∃ v, e = .returned v ∧ ∃ (a : Option Addr) (c : Nat), v = .slice a (dueIds (now + 1) L).length c ∧
      ∃ a1 c1 a2 c2, Has w0 w' (ow 3 1 a (dueIds (now + 1) L).length c (ic (dueIds (now + 1) L)) :: rf b (now + 1) a1 c1 a2 c2 (L.filter fun p => !(p.2 == now + 1)) r) := by
  refine tontineref09_Wheel_Tick.ok _ _ ?_
  have e0 : wu64 ((now : Int) + 1) = ((now + 1 : Nat) : Int) := by rw [wu64_id (by omega)]; rfl
  refine ⟨_, H.cell rfl, Has.st H (by simp) rfl fun w1 H => ?_⟩
  rw [e0] at H
  have H : Has w0 w1 (rf b (now + 1) a1 c1 a2 c2 L r) := H
  have hft := fun j => filter_two (fun p : Int × Nat => p.2 == now + 1) (L.take j)
  have hdl : ∀ j, (dueIds (now + 1) (L.take j)).length = ((L.take j).filter fun p => p.2 == now + 1).length := fun j => by unfold dueIds; rw [List.length_map]
  refine ⟨fun oa on oc i w' => ∃ (j : Nat) (a1 : Option Addr) (c1 : Nat) (a2 : Option Addr) (c2 : Nat), j ≤ L.length ∧ i = (((L.take j).filter fun p => !(p.2 == now + 1)).length : Int) ∧ on = (dueIds (now + 1) (L.take j)).length ∧
      Has w0 w' (ow 3 1 oa on oc (ic (dueIds (now + 1) (L.take j))) :: rf b (now + 1) a1 c1 a2 c2 ((L.take j).filter (fun p => !(p.2 == now + 1)) ++ L.drop j) r), fun _ on _ i _ => L.length + 1 - (on + i.toNat), ⟨0, a1, c1, a2, c2, by omega, rfl, rfl, H.mkow0 3 1⟩, ?_⟩
  clear H
  rintro _ oa on oc i w2 ⟨j, a3, c3, a4, c4, hj, rfl, rfl, H⟩
  have hftj := hft j
  have hdlj := hdl j
  rw [List.length_take, Nat.min_eq_left hj] at hftj
  generalize hK : (L.take j).filter (fun p => !(p.2 == now + 1)) = K at H hftj
  refine ⟨_, _, _, H.f1.cell rfl, bif_i (fun h => ?_) fun h => ?_⟩
  · have h : j < L.length := by
      have : K.length < (K ++ L.drop j).length := by simp at h ⊢; omega
      simp at this; omega
    have hKl : K.length < (K ++ L.drop j).length := by simp; omega
    have hKe : (K ++ L.drop j)[K.length]'hKl = L[j] := by
      rw [List.getElem_append_right (Nat.le_refl _)]; simp
    have hft1 := hft (j + 1)
    have hdl1 := hdl (j + 1)
    have e6 : L.take (j + 1) = L.take j ++ [L[j]] := List.take_succ_eq_append_getElem h
    refine H.dr fun w3 H => ?_
    have hvI : Vw w3 a3 (ic ((K ++ L.drop j).map (·.1))) := Has.vw H.f2
    have hvU : Vw w3 a4 (uc ((K ++ L.drop j).map (·.2))) := Has.vw H.f3
    obtain ⟨b3, o3, hb3, hc3⟩ := hvU.one (i := K.length) (v := .int .u64 (L[j].2 : Int)) (by rw [uc, List.getElem?_map, List.getElem?_map, List.getElem?_eq_getElem hKl, hKe]; rfl)
    obtain ⟨b4, o4, hb4, hc4⟩ := hvI.one (i := K.length) (v := .int .i64 L[j].1) (by rw [ic, List.getElem?_map, List.getElem?_map, List.getElem?_eq_getElem hKl, hKe]; rfl)
    refine ⟨_, _, _, H.f1.cell rfl, b3, o3, hb3, by omega, by exact_mod_cast hKl, _, hc3, _, H.f1.cell rfl, bif_i (fun h2 => ?_) fun h2 => ?_⟩
    · have h2 : L[j].2 = now + 1 := by simp at h2; omega
      have hf1 : (L.take (j + 1)).filter (fun p => !(p.2 == now + 1)) = K := by rw [e6, List.filter_append, hK, List.filter_cons_of_neg (by simp [h2])]; simp
      have hd1 : dueIds (now + 1) (L.take (j + 1)) = dueIds (now + 1) (L.take j) ++ [L[j].1] := by
        rw [e6, dueIds_append]
        congr 1
        unfold dueIds
        rw [List.filter_cons_of_pos (by simp [h2])]; rfl
      refine ⟨_, _, _, H.f1.cell rfl, b4, o4, hb4, by omega, by exact_mod_cast hKl, _, hc4, H.al fun b5 w4 H => ?_⟩
      have H := Has.ro H [1]
      refine Has.app (m := 1) elI H (Has.src (vs := [.int .i64 L[j].1]) elI H.f1 rfl rfl) (by rw [hdlj]; omega) (by simp [maxLen]; omega) fun a6 c6 w5 H => ?_
      refine (ref_drop_spec (i := K.length) hKl (by simp; omega) (Has.ro H [2, 3, 4])).mono ?_
      rintro e w6 ⟨v, rfl, rfl, a7, c7, a8, c8, H⟩
      have he : (K ++ L.drop j).eraseIdx K.length = K ++ L.drop (j + 1) := by
        rw [List.eraseIdx_append_of_length_le (Nat.le_refl _), Nat.sub_self, List.drop_eq_getElem_cons h]; rfl
      rw [he] at H
      have e7 : ic (dueIds (now + 1) (L.take j)) ++ [.int .i64 L[j].1] = ic (dueIds (now + 1) (L.take (j + 1))) := by rw [hd1]; simp [ic]
      have e8 : (dueIds (now + 1) (L.take j)).length + 1 = (dueIds (now + 1) (L.take (j + 1))).length := by rw [hd1]; simp
      refine ⟨rfl, ⟨j + 1, a7, c7, a8, c8, h, by rw [hf1], e8, ?_⟩, by (try dsimp only); omega⟩
      rw [hf1, e8, ← e7]
      rw [e8] at H
      exact Has.ro (Has.rm H [4]) [3]
    · have h2 : ¬ L[j].2 = now + 1 := by
        intro e; rw [e] at h2; simp at h2
      have hf1 : (L.take (j + 1)).filter (fun p => !(p.2 == now + 1)) = K ++ [L[j]] := by rw [e6, List.filter_append, hK, List.filter_cons_of_pos (by simp [h2])]; simp
      have hd1 : dueIds (now + 1) (L.take (j + 1)) = dueIds (now + 1) (L.take j) := by
        rw [e6, dueIds_append]
        unfold dueIds
        rw [List.filter_cons_of_neg (by simp [h2])]; simp
      have e9 : K ++ L.drop j = (K ++ [L[j]]) ++ L.drop (j + 1) := by rw [List.drop_eq_getElem_cons h]; simp
      rw [w64_id (by omega)]
      refine ⟨⟨j + 1, a3, c3, a4, c4, h, by rw [hf1]; simp, by rw [hd1], ?_⟩, by (try dsimp only); omega⟩
      rw [hf1, hd1, ← e9]
      exact H
  · have h : j = L.length := by
      simp at h; omega
    subst h
    rw [List.take_length] at H hK ⊢
    rw [List.drop_length, List.append_nil, ← hK] at H
    exact ⟨oa, oc, rfl, a3, c3, a4, c4, H⟩

theorem ref_Ints_spec {l : List Int} {ca cb : Nat} (hl : l.length ≤ 1000) (ha : Vw w a1 (ic l)) (hb : Vw w a2 (ic l)) (H : Has w0 w r) :
    Calls Try.prog 18 #[.slice a1 l.length ca, .slice a2 l.length cb] w fun e w' => ∃ v, e = .returned v ∧ v = .bool true ∧ Has w0 w' r := by
  refine tontineref04_Ints.ok _ _ _ _ _ _ ?_
  refine bif_f (by simp) ⟨fun i w' => ∃ k : Nat, i = (k : Int) ∧ k ≤ l.length ∧ Vw w' a1 (ic l) ∧ Vw w' a2 (ic l) ∧ Has w0 w' r, fun i _ => l.length + 1 - i.toNat, ⟨0, rfl, by omega, ha, hb, H⟩, ?_⟩
  clear H ha hb
  rintro _ i w1 ⟨k, rfl, hk, ha, hb, H⟩
  refine bif_i (fun h => ?_) fun h => ⟨rfl, H⟩
  have h : k < l.length := by simp at h; omega
  have e2 : w64 ((k : Int) + 1) = ((k + 1 : Nat) : Int) := by rw [w64_id (by omega)]; rfl
  rw [e2]
  rintro w2 rfl
  have ha : Vw w1.drew a1 (ic l) := ha
  have hb : Vw w1.drew a2 (ic l) := hb
  obtain ⟨b3, o3, hb3, hc3⟩ := ha.one (i := k) (v := .int .i64 l[k]) (by simp [ic, h])
  obtain ⟨b4, o4, hb4, hc4⟩ := hb.one (i := k) (v := .int .i64 l[k]) (by simp [ic, h])
  exact ⟨b3, o3, hb3, by omega, by omega, _, hc3, b4, o4, hb4, by omega, by omega, _, hc4, bif_f (by simp) ⟨⟨k + 1, rfl, h, ha, hb, H.drew⟩, by (try dsimp only); omega⟩⟩

end
end Go.Proofs.Ytdlalkhnppahfaa
