/-
  Layer 9 (wheel): a wheel as its one list: New, Now, Len, Due, Stop, Set.
-/
import Derived.Test.YtdlalkhnppahfaaXWheelD
set_option maxRecDepth 8000
namespace Go.X
open Go

/-- A slice of nil slices that can be made. -/
def mkSOk (P : Program) (t e : Nat) : Bool :=
  (match P.underlying t with | some (.slice e') => e' == e | _ => false) &&
  (match P.info? e with | some i => i.size == 1 && Nat.ble i.bytes 1000 && (match i.zero with | some (.slice none 0 0) => true | _ => false) | none => false)

theorem Has.mkS {P : Program} {w0 w : World} {r : List A} {t e : Nat} (hok : mkSOk P t e = true) (H : Has w0 w r) {n : Nat} (hn : n ≤ 1000000) {K : Option Addr → Nat → Nat → World → Prop}
    (k : ∀ b w', Has w0 w' (ca b e (List.replicate n (.slice none 0 0)) :: r) → K (some ⟨b, 0, none⟩) n n w') : exSl P (Instr.makeSlice t (.int .i64 (n : Int)) (.int .i64 (n : Int))) K w := by
  unfold mkSOk at hok
  simp only [Bool.and_eq_true] at hok
  obtain ⟨h1, h2⟩ := hok
  split at h1
  · rename_i e' he
    have : e' = e := by simpa using h1
    subst this
    split at h2
    · rename_i i hi
      simp only [Bool.and_eq_true, beq_iff_eq] at h2
      obtain ⟨⟨h3, h4⟩, h5⟩ := h2
      split at h5
      · rename_i hz
        exact H.mkZ he hi hz h3 (Nat.le_of_ble_eq_true h4) rfl hn k
      · cases h5
    · cases h2
  · cases h1

theorem Has.bigNil {w0 w : World} {r : List A} (T sz : Nat) (H : Has w0 w r) : ∀ n, Has w0 w (big (List.replicate n (ow T sz none 0 0 [])) :: r)
  | 0 => H.mkemp
  | n + 1 => by
    have H1 := (Has.bigNil T sz H n).mkow0 T sz
    exact H1.unstar

/-- A wheel's state: the time; how many were set at most; its timers (number, when due) in the order in which they were set. -/
structure Iv (m : Wm) (now k : Nat) (L : List (Int × Nat)) : Prop where
  nw : m.now = now
  len : m.rs.length = 449
  turn : m.turn ≤ k
  n : m.n = L.length
  le : L.length ≤ 64
  nd : (L.map (·.1)).Nodup
  due : ∀ p ∈ L, now < p.2 ∧ p.2 ≤ now + 1048576
  T : ∃ T : List Tm, T.map (fun t => (t.id, t.due)) = L ∧ At now m.pl T ∧ T.Pairwise (fun a b => a.turn < b.turn) ∧ ∀ t ∈ T, t.turn ≤ m.turn

theorem flatten_le {α : Type} {pl : List (List α)} {l : List α} (h : l ∈ pl) : l.length ≤ pl.flatten.length := by
  induction pl with
  | nil => cases h
  | cons x pl ih =>
    rw [List.flatten_cons, List.length_append]
    rcases List.mem_cons.1 h with rfl | h
    · omega
    · have := ih h; omega

theorem hsm_of {m : Wm} {k : Nat} (h : m.pl.flatten.length ≤ k) : ∀ x ∈ m.rs, x.l.length ≤ k := fun x hx =>
  Nat.le_trans (flatten_le (List.mem_map.2 ⟨x, hx, rfl⟩)) h

theorem Iv.flat {m : Wm} {now k : Nat} {L : List (Int × Nat)} (h : Iv m now k L) : m.pl.flatten.length = L.length := by
  obtain ⟨T, h1, h2, _⟩ := h.T
  rw [h2.perm.length_eq, ← h1, List.length_map]

theorem Iv.more {m : Wm} {now k k' : Nat} {L : List (Int × Nat)} (h : Iv m now k L) (hk : k ≤ k') : Iv m now k' L := { h with turn := Nat.le_trans h.turn hk }

theorem Iv.mem {m : Wm} {now k : Nat} {L : List (Int × Nat)} (h : Iv m now k L) (p : Int × Nat) : p ∈ L ↔ ∃ t ∈ m.pl.flatten, (t.id, t.due) = p := by
  obtain ⟨T, h1, h2, _⟩ := h.T
  rw [← h1, List.mem_map]
  exact ⟨fun ⟨t, ht, e⟩ => ⟨t, h2.perm.mem_iff.2 ht, e⟩, fun ⟨t, ht, e⟩ => ⟨t, h2.perm.mem_iff.1 ht, e⟩⟩

theorem Iv.ids {m : Wm} {now k : Nat} {L : List (Int × Nat)} (h : Iv m now k L) (id : Int) : (∃ t ∈ m.pl.flatten, t.id = id) ↔ ∃ p ∈ L, p.1 = id := by
  constructor
  · rintro ⟨t, ht, rfl⟩; exact ⟨(t.id, t.due), (h.mem _).2 ⟨t, ht, rfl⟩, rfl⟩
  · rintro ⟨p, hp, rfl⟩
    obtain ⟨t, ht, e⟩ := (h.mem _).1 hp
    exact ⟨t, ht, by rw [← e]⟩

theorem Iv.gone {m : Wm} {now k : Nat} {L : List (Int × Nat)} (h : Iv m now k L) {id : Int} (hno : ∀ t ∈ m.pl.flatten, t.id ≠ id) : L.filter (fun p => p.1 != id) = L :=
  List.filter_eq_self.2 fun p hp => by
    obtain ⟨t, ht, e⟩ := (h.mem p).1 hp
    have := hno t ht
    subst e
    simpa using this

theorem place_step {now due : Nat} : place now due < 449 := place_lt now due

theorem erase_perm' {α : Type} {l : List α} {i : Nat} (h : i < l.length) : l.Perm (l[i] :: l.eraseIdx i) := (erase_perm h).symm

theorem Iv.stop {m : Wm} {now k : Nat} {L : List (Int × Nat)} (h : Iv m now k L) {id : Int} {j : Nat} (hj : j < m.rs.length) {i : Nat} (hi : i < (m.rs[j]).l.length) {x : Rw} (hid : ((m.rs[j]).l[i]).id = id) (hx : x.l = (m.rs[j]).l.eraseIdx i) :
    Iv { m with n := m.n - 1, rs := m.rs.set j x } now k (L.filter fun p => p.1 != id) ∧ (L.filter fun p => p.1 != id).length + 1 = L.length := by
  obtain ⟨T, h1, h2, h3, h4⟩ := h.T
  have hplj : j < m.pl.length := by simpa [Wm.pl] using hj
  have hplg : m.pl[j] = (m.rs[j]).l := by simp [Wm.pl]
  have hpl : Wm.pl { m with n := m.n - 1, rs := m.rs.set j x } = m.pl.set j ((m.rs[j]).l.eraseIdx i) := by
    unfold Wm.pl; dsimp only; rw [List.map_set, hx]
  have hperm : T.Perm ((m.rs[j]).l[i] :: (m.pl.set j ((m.rs[j]).l.eraseIdx i)).flatten) := by
    refine h2.perm.symm.trans ((flatten_split m.pl j hplj).trans ?_)
    rw [hplg]
    refine ((erase_perm' hi).append_right _).trans ?_
    exact List.Perm.cons _ (flatten_set m.pl j _ hplj).symm
  have hnd : (T.map (·.id)).Nodup := by
    have := h.nd
    rw [← h1, List.map_map] at this
    exact this
  have hnd2 := (hperm.map (·.id)).nodup_iff.1 hnd
  simp only [List.map_cons, List.nodup_cons] at hnd2
  have hfil : (T.filter fun t => t.id != id).Perm (m.pl.set j ((m.rs[j]).l.eraseIdx i)).flatten := by
    have h5 := hperm.filter fun t => t.id != id
    rw [List.filter_cons_of_neg (by simp [hid])] at h5
    have h6 : (m.pl.set j ((m.rs[j]).l.eraseIdx i)).flatten.filter (fun t => t.id != id) = (m.pl.set j ((m.rs[j]).l.eraseIdx i)).flatten := by
      refine List.filter_eq_self.2 fun t ht => ?_
      have : t.id ≠ id := fun e => hnd2.1 (List.mem_map.2 ⟨t, ht, by rw [e, hid]⟩)
      simpa using this
    rwa [h6] at h5
  have hL : L.filter (fun p => p.1 != id) = (T.filter fun t => t.id != id).map fun t => (t.id, t.due) := by
    rw [← h1, List.filter_map]; rfl
  have hlen : (L.filter fun p => p.1 != id).length + 1 = L.length := by
    rw [hL, List.length_map, hfil.length_eq, ← h1, List.length_map, hperm.length_eq, List.length_cons]
  refine ⟨⟨h.nw, by simpa using h.len, h.turn, ?_, ?_, ?_, fun p hp => h.due p ((List.mem_filter.1 hp).1), T.filter fun t => t.id != id, hL.symm, ⟨?_, ?_, ?_⟩, h3.filter _, fun t ht => h4 t ((List.mem_filter.1 ht).1)⟩, hlen⟩
  · have := h.n
    dsimp only; omega
  · have := h.le; omega
  · exact h.nd.sublist (List.filter_sublist.map _)
  · rw [hpl, List.length_set]; exact h2.len
  · rw [hpl]; exact hfil.symm
  · rw [hpl]
    intro q hq t ht
    have hq' : q < m.pl.length := by simpa using hq
    rw [List.getElem_set] at ht
    split at ht
    · rename_i e
      subst e
      exact h2.at_ _ hq' t (by rw [hplg]; exact List.mem_of_mem_eraseIdx ht)
    · exact h2.at_ _ hq' t ht

theorem Iv.set {m : Wm} {now k : Nat} {L : List (Int × Nat)} (h : Iv m now k L) {id : Int} {d : Nat} (hd : 1 ≤ d ∧ d ≤ 1048576) (hno : ∀ p ∈ L, p.1 ≠ id) (hlt : L.length < 64) {x : Rw}
    (hx : x.l = (m.rs[place m.now (m.now + d)]?.getD ⟨none, 0, []⟩).l ++ [⟨id, m.now + d, m.turn + 1⟩]) :
    Iv { m with turn := m.turn + 1, n := m.n + 1, rs := m.rs.set (place m.now (m.now + d)) x } now (k + 1) (L ++ [(id, now + d)]) := by
  obtain ⟨T, h1, h2, h3, h4⟩ := h.T
  obtain rfl := h.nw
  have hpj : place m.now (m.now + d) < m.rs.length := by rw [h.len]; exact place_lt _ _
  have hplj : place m.now (m.now + d) < m.pl.length := by simpa [Wm.pl] using hpj
  have hpl : Wm.pl { m with turn := m.turn + 1, n := m.n + 1, rs := m.rs.set (place m.now (m.now + d)) x } = putAt m.pl (place m.now (m.now + d)) ⟨id, m.now + d, m.turn + 1⟩ := by
    unfold Wm.pl putAt; dsimp only
    rw [List.map_set, hx, List.getElem?_map, List.getElem?_eq_getElem hpj]; rfl
  refine ⟨rfl, by simpa using h.len, Nat.succ_le_succ h.turn, by simp [h.n], by simp; omega, ?_, fun p hp => ?_, T ++ [⟨id, m.now + d, m.turn + 1⟩], by rw [List.map_append, h1]; rfl, ⟨?_, ?_, ?_⟩, ?_, fun t ht => ?_⟩
  · rw [List.map_append, List.nodup_append]
    refine ⟨h.nd, by simp, fun a ha b hb => ?_⟩
    obtain ⟨p, hp, rfl⟩ := List.mem_map.1 ha
    simp at hb; subst hb
    exact hno p hp
  · rcases List.mem_append.1 hp with hp | hp
    · exact h.due p hp
    · simp at hp; subst hp; dsimp only; omega
  · rw [hpl, putAt_len]; exact h2.len
  · rw [hpl]
    exact (putAt_perm hplj _).trans ((h2.perm.cons _).trans (List.perm_append_singleton _ _).symm)
  · rw [hpl]
    intro q hq t ht
    rcases putAt_mem hq ht with ⟨hq', ht⟩ | ⟨rfl, rfl⟩
    · exact h2.at_ q hq' t ht
    · rfl
  · rw [List.pairwise_append]
    refine ⟨h3, by simp, fun a ha b hb => ?_⟩
    simp at hb; subst hb
    exact Nat.lt_succ_of_le (h4 a ha)
  · rcases List.mem_append.1 ht with ht | ht
    · exact Nat.le_succ_of_le (h4 t ht)
    · simp at ht; subst ht; exact Nat.le_refl _

theorem pl_none {rb : Nat → Nat} : Wm.pl ⟨0, 0, 0, rb, List.replicate 449 ⟨none, 0, []⟩⟩ = List.replicate 449 [] := by unfold Wm.pl; rw [List.map_replicate]

/-- In how much time the next is due. -/
def nxt (now : Nat) (L : List (Int × Nat)) : Nat := L.foldl (fun d p => if d = 0 ∨ p.2 - now < d then p.2 - now else d) 0

theorem minD_unique {now : Nat} {l l' : List Tm} (hp : l.Perm l') (h : ∀ t ∈ l, now < t.due) : minD now l = minD now l' := by
  have h' : ∀ t ∈ l', now < t.due := fun t ht => h t (hp.mem_iff.2 ht)
  rcases minD_is h with ⟨rfl, e⟩ | ⟨⟨t, ht, e⟩, hle⟩
  · have : l' = [] := hp.nil_eq.symm ▸ rfl
    rw [this]
  · rcases minD_is h' with ⟨rfl, e'⟩ | ⟨⟨t', ht', e'⟩, hle'⟩
    · rw [hp.mem_iff] at ht; cases ht
    · have g1 := hle t' (hp.mem_iff.2 ht')
      have g2 := hle' t (hp.mem_iff.1 ht)
      omega

theorem nxt_map (now : Nat) (T : List Tm) : minD now T = nxt now (T.map fun t => (t.id, t.due)) := by
  unfold minD nxt
  rw [List.foldl_map]

theorem Iv.nxt {m : Wm} {now k : Nat} {L : List (Int × Nat)} (h : Iv m now k L) : minD m.now m.pl.flatten = nxt now L := by
  obtain ⟨T, h1, h2, _⟩ := h.T
  have e := h.nw
  subst e
  rw [← h1, ← nxt_map]
  refine minD_unique h2.perm fun t ht => ?_
  exact (h.due _ ((h.mem (t.id, t.due)).2 ⟨t, ht, rfl⟩)).1

/-- What Set answers, and makes of the timers. -/
def setR (now : Nat) (L : List (Int × Nat)) (id delay : Int) : Int × List (Int × Nat) :=
  if delay < 1 ∨ 1048576 < delay then (1, L) else if L.length = 64 ∧ ∀ p ∈ L, p.1 ≠ id then (11, L) else (0, L.filter (fun p => p.1 != id) ++ [(id, now + delay.toNat)])

end Go.X
namespace Go.Proofs.Ytdlalkhnppahfaa
open Go.X

/-- A wheel, at a time, of at most so many that were set, with its timers. -/
def wl (b now k : Nat) (L : List (Int × Nat)) : A := ex fun m => star (pur' (Iv m now k L)) (big (whA b m []))

section
variable {w0 w : World} {r : List A} {b now k : Nat} {L : List (Int × Nat)}

theorem wl_open (H : Has w0 w (wl b now k L :: r)) : ∃ m, Iv m now k L ∧ Has w0 w (whA b m r) := by
  obtain ⟨m, H⟩ := H.ex
  obtain ⟨h, H⟩ := H.star.pur
  have H1 := H.star
  have H2 := (Has.f1 H1).star
  have H3 := (Has.f1 H2).star
  have H4 := (Has.f1 H3).star
  have H5 := (Has.f1 H4).star
  have H6 := (Has.f1 H5).emp
  exact ⟨m, h, Has.ro H6 [4, 3, 2, 1, 0]⟩

theorem wl_shut {m : Wm} (h : Iv m now k L) (H : Has w0 w (whA b m r)) : Has w0 w (wl b now k L :: r) := by
  have H1 : Has w0 w (_ :: emp :: _) := (Has.mkemp (Has.ro H [4, 3, 2, 1, 0])).f1
  have H2 := (H1.unstar).f1.unstar.f1.unstar.f1.unstar.f1.unstar
  exact Has.mkex m (H2.mkpur h).unstar

theorem co_wl : co1 (wl b now k L) := by
  refine co_ex fun m => co_star (co_pur _) (co_big ?_)
  have : CO (whA b m []) := CO_wh trivial
  exact this.mem

theorem wheel_New_wl (H : Has w0 w r) : Calls Try.prog 10 #[] w fun e w' => ∃ v, e = .returned v ∧ ∃ b, v = pv b 0 ∧ Has w0 w' (wl b 0 0 [] :: r) := by
  refine wheel_New.ok ?_
  refine H.al fun b1 w1 H => ?_
  have H : Has w0 w1 (ca b1 49 [.int .u64 0, .int .i64 0, .slice none 0 0, .slice none 0 0, .slice none 0 0, .slice none 0 0, .int .i64 0] :: r) := H
  refine ⟨fun i w' => (i = 0 ∧ Has w0 w' (ca b1 49 [.int .u64 0, .int .i64 0, .slice none 0 0, .slice none 0 0, .slice none 0 0, .slice none 0 0, .int .i64 0] :: r)) ∨
    (i = 1 ∧ ∃ b2, Has w0 w' (ca b1 49 [.int .u64 0, .int .i64 0, .slice (some ⟨b2, 0, none⟩) 64 64, .slice none 0 0, .slice none 0 0, .slice none 0 0, .int .i64 0] :: ca b2 47 (List.replicate 64 (.slice none 0 0)) :: r)) ∨
    (i = 2 ∧ ∃ b2 b3, Has w0 w' (ca b1 49 [.int .u64 0, .int .i64 0, .slice (some ⟨b2, 0, none⟩) 64 64, .slice (some ⟨b3, 0, none⟩) 128 128, .slice none 0 0, .slice none 0 0, .int .i64 0] :: ca b2 47 (List.replicate 64 (.slice none 0 0)) :: ca b3 47 (List.replicate 128 (.slice none 0 0)) :: r)) ∨
    (i = 3 ∧ ∃ b2 b3 b4, Has w0 w' (ca b1 49 [.int .u64 0, .int .i64 0, .slice (some ⟨b2, 0, none⟩) 64 64, .slice (some ⟨b3, 0, none⟩) 128 128, .slice (some ⟨b4, 0, none⟩) 256 256, .slice none 0 0, .int .i64 0] :: ca b2 47 (List.replicate 64 (.slice none 0 0)) :: ca b3 47 (List.replicate 128 (.slice none 0 0)) :: ca b4 47 (List.replicate 256 (.slice none 0 0)) :: r)),
    fun i _ => 4 - i.toNat, .inl ⟨rfl, H⟩, ?_⟩
  clear H
  rintro _ i w2 (⟨rfl, H⟩ | ⟨rfl, b2, H⟩ | ⟨rfl, b2, b3, H⟩ | ⟨rfl, b2, b3, b4, H⟩)
  · refine bif_t (by decide) ⟨by omega, by omega, 64, rfl, H.dr fun w3 H => Has.mkS (e := 47) (n := 64) (by kernel_rfl) H (by omega) fun b2 w4 H => ⟨by omega, by omega, Has.st H.f1 (by simp) rfl fun w5 H => ?_⟩⟩
    exact ⟨.inr (.inl ⟨rfl, b2, H⟩), by dsimp only; decide⟩
  · refine bif_t (by decide) ⟨by omega, by omega, 128, rfl, H.dr fun w3 H => Has.mkS (e := 47) (n := 128) (by kernel_rfl) H (by omega) fun b3 w4 H => ⟨by omega, by omega, Has.st H.f1 (by simp) rfl fun w5 H => ?_⟩⟩
    exact ⟨.inr (.inr (.inl ⟨rfl, b2, b3, H.ro [0, 2, 1]⟩)), by dsimp only; decide⟩
  · refine bif_t (by decide) ⟨by omega, by omega, 256, rfl, H.dr fun w3 H => Has.mkS (e := 47) (n := 256) (by kernel_rfl) H (by omega) fun b4 w4 H => ⟨by omega, by omega, Has.st H.f1 (by simp) rfl fun w5 H => ?_⟩⟩
    exact ⟨.inr (.inr (.inr ⟨rfl, b2, b3, b4, H.ro [0, 2, 3, 1]⟩)), by dsimp only; decide⟩
  · refine bif_f (by decide) ⟨b1, rfl, ?_⟩
    have H1 := Has.bigNil 53 3 H 449
    have H2 : Has w0 w2 (whA b1 ⟨0, 0, 0, fun i => match i with | 0 => b2 | 1 => b3 | _ => b4, List.replicate 449 ⟨none, 0, []⟩⟩ r) := by
      unfold whA whP
      have e : (List.replicate 449 (⟨none, 0, []⟩ : Rw)).map (Rw.own 53) = List.replicate 449 (ow 53 3 none 0 0 []) := by rw [List.map_replicate]; rfl
      have e0 : ∀ i, hseg (List.replicate 449 (⟨none, 0, []⟩ : Rw)) i = List.replicate (min (rsz i) (449 - rof i)) (.slice none 0 0) := fun i => by
        unfold hseg; rw [List.drop_replicate, List.take_replicate, List.map_replicate]; rfl
      rw [e, e0, e0, e0]
      exact H1.ro [1, 2, 3, 4, 0]
    refine wl_shut ⟨rfl, List.length_replicate, Nat.le_refl _, rfl, by simp, by simp, fun p hp => (by cases hp), [], rfl, ⟨by simp [Wm.pl], ?_, fun j hj t ht => ?_⟩, by simp, fun t ht => (by cases ht)⟩ H2
    · unfold Wm.pl; rw [List.map_replicate]; simp
    · have h := List.mem_flatten.2 ⟨_, List.getElem_mem hj, ht⟩
      rw [pl_none] at h
      simp at h

theorem wheel_Now_wl (H : Has w0 w (wl b now k L :: r)) : Calls Try.prog 20 #[pv b 0] w fun e w' => ∃ v, e = .returned v ∧ v = .int .u64 (now : Int) ∧ Has w0 w' (wl b now k L :: r) := by
  obtain ⟨m, h, H⟩ := wl_open H
  refine (wheel_Now_spec H).mono ?_
  rintro e w' ⟨v, rfl, rfl, H⟩
  exact ⟨_, rfl, by rw [h.nw], wl_shut h H⟩
theorem wheel_Len_wl (H : Has w0 w (wl b now k L :: r)) : Calls Try.prog 14 #[pv b 0] w fun e w' => ∃ v, e = .returned v ∧ v = .int .i64 (L.length : Int) ∧ Has w0 w' (wl b now k L :: r) := by
  obtain ⟨m, h, H⟩ := wl_open H
  refine (wheel_Len_spec H).mono ?_
  rintro e w' ⟨v, rfl, rfl, H⟩
  exact ⟨_, rfl, by rw [h.n], wl_shut h H⟩
theorem wheel_Due_wl (hn : now < 2097152) (hr : CO r) (H : Has w0 w (wl b now k L :: r)) : Calls Try.prog 15 #[pv b 0] w fun e w' => ∃ v, e = .returned v ∧ v = .int .u64 (nxt now L : Int) ∧ Has w0 w' (wl b now k L :: r) := by
  obtain ⟨m, h, H⟩ := wl_open H
  have hf := h.flat
  have hle := h.le
  refine (wheel_Due_spec h.len (hsm_of (by omega)) (fun t ht => ?_) hr H).mono ?_
  · have := h.due _ ((h.mem (t.id, t.due)).2 ⟨t, ht, rfl⟩)
    rw [h.nw]
    dsimp only at this; omega
  · rintro e w' ⟨v, rfl, rfl, H⟩
    exact ⟨_, rfl, by rw [h.nxt], wl_shut h H⟩
theorem wheel_Stop_wl {id : Int} (hr : CO r) (H : Has w0 w (wl b now k L :: r)) :
    Calls Try.prog 13 #[pv b 0, .int .i64 id] w fun e w' => ∃ v, e = .returned v ∧ ∃ q : Bool, v = .bool q ∧ (q = true ↔ ∃ p ∈ L, p.1 = id) ∧ Has w0 w' (wl b now k (L.filter fun p => p.1 != id) :: r) := by
  obtain ⟨m, h, H⟩ := wl_open H
  have hf := h.flat
  have hle := h.le
  have hn := h.n
  refine (wheel_Stop_spec h.len (hsm_of (by omega)) (by omega) (by omega) hr H).mono ?_
  rintro e w' ⟨v, rfl, q, rfl, (⟨rfl, hno, H⟩ | ⟨rfl, j, hj, i, hi, x, hid, hx, H⟩)⟩
  · refine ⟨_, rfl, false, rfl, ⟨fun h => (by cases h), fun hp => ?_⟩, ?_⟩
    · obtain ⟨t, ht, e⟩ := (h.ids id).2 hp
      exact absurd e (hno t ht)
    · rw [h.gone hno]
      exact wl_shut h H
  · refine ⟨_, rfl, true, rfl, ⟨fun _ => (h.ids id).1 ⟨_, List.mem_flatten.2 ⟨_, List.mem_map.2 ⟨_, List.getElem_mem hj, rfl⟩, List.getElem_mem hi⟩, hid⟩, fun _ => rfl⟩, wl_shut (h.stop hj hi hid hx).1 H⟩

theorem wheel_Set_wl {id delay : Int} (hk : k < 1000000) (hnow : now < 2097152) (hr : CO r) (H : Has w0 w (wl b now k L :: r)) :
    Calls Try.prog 11 #[pv b 0, .int .i64 id, .int .i64 delay] w fun e w' => ∃ v, e = .returned v ∧ v = .int .i64 (setR now L id delay).1 ∧ Has w0 w' (wl b now (k + 1) (setR now L id delay).2 :: r) := by
  obtain ⟨m, h, H⟩ := wl_open H
  have hf := h.flat
  have hle := h.le
  have hn := h.n
  have ht := h.turn
  have hno := h.nw
  refine wheel_Wheel_Set.ok _ _ _ _ ?_
  unfold setR
  refine bif_i (fun h1 => ?_) fun h1 => bif_i (fun h2 => ?_) fun h2 => ?_
  · rw [if_pos (.inl (by simpa using h1))]
    exact ⟨rfl, wl_shut (h.more (Nat.le_succ _)) H⟩
  · rw [if_pos (.inr (by simpa using h2))]
    exact ⟨rfl, wl_shut (h.more (Nat.le_succ _)) H⟩
  · simp only [decide_eq_false_iff_not] at h1 h2
    rw [if_neg (by omega)]
    refine ⟨fun w' => ¬ (L.length = 64 ∧ ∀ p ∈ L, p.1 ≠ id) ∧ ∃ m1, Iv m1 now k (L.filter fun p => p.1 != id) ∧ (L.filter fun p => p.1 != id).length < 64 ∧ Has w0 w' (whA b m1 r), ?_, ?_⟩
    · refine (wheel_has_spec h.len (hsm_of (by omega)) hr H).mono ?_
      rintro e w1 ⟨v, rfl, q, rfl, hq, H⟩
      refine ⟨q, rfl, bif_i (fun h3 => ?_) fun h3 => ?_⟩
      · have h4 := hq.1 h3
        refine (wheel_Stop_spec h.len (hsm_of (by omega)) (by omega) (by omega) hr H).mono ?_
        rintro e w' ⟨v, rfl, q, rfl, (⟨rfl, hno, H⟩ | ⟨rfl, j, hj, i, hi, x, hid, hx, H⟩)⟩
        · obtain ⟨t, ht, e⟩ := h4
          exact absurd e (hno t ht)
        · have h5 := h.stop hj hi hid hx
          refine ⟨true, rfl, fun hc => ?_, _, h5.1, by omega, H⟩
          obtain ⟨p, hp, e⟩ := (h.ids id).1 h4
          exact hc.2 p hp e
      · have h4 : ∀ t ∈ m.pl.flatten, t.id ≠ id := fun t ht e => by
          have := hq.2 ⟨t, ht, e⟩
          rw [h3] at this; cases this
        have h5 : ∀ p ∈ L, p.1 ≠ id := fun p hp e => by
          obtain ⟨t, ht, e⟩ := (h.ids id).2 ⟨p, hp, e⟩
          exact h4 t ht e
        refine ⟨_, Has.cell H rfl, bif_i (fun h6 => ?_) fun h6 => ?_⟩
        · have h6 : (m.n : Int) = 64 := by simpa using h6
          rw [if_pos ⟨by omega, h5⟩]
          exact ⟨rfl, wl_shut (h.more (Nat.le_succ _)) H⟩
        · have h6 : ¬ (m.n : Int) = 64 := by simpa using h6
          refine ⟨fun hc => h6 (by omega), m, ?_, ?_, H⟩
          · rw [h.gone h4]; exact h
          · rw [h.gone h4]; omega
    · rintro _ w1 ⟨hc, m1, h1', hlt, H⟩
      rw [if_neg hc]
      have hn1 := h1'.n
      have ht1 := h1'.turn
      have hno1 := h1'.nw
      have hf1 := h1'.flat
      refine ⟨_, Has.cell H rfl, Has.st H (by simp [Wm.cells]) rfl fun w2 H => ⟨_, Has.cell H rfl, Has.st H (by simp [Wm.cells, wr]) rfl fun w3 H => ?_⟩⟩
      have e2 : w64 ((m1.turn : Int) + 1) = ((m1.turn + 1 : Nat) : Int) := by rw [w64_id (by omega)]; rfl
      have e3 : w64 ((m1.n : Int) + 1) = ((m1.n + 1 : Nat) : Int) := by rw [w64_id (by omega)]; rfl
      rw [e2, e3] at H
      have H : Has w0 w3 (whA b { m1 with turn := m1.turn + 1, n := m1.n + 1 } r) := H
      have e1 : wu64 ((m1.now : Int) + wu64 delay) = ((m1.now + delay.toNat : Nat) : Int) := by
        rw [wu64_id (n := delay) (by omega), wu64_id (by omega)]; omega
      refine H.dr fun w4 H => ⟨_, Has.cell H rfl, _, Has.cell H rfl, ?_⟩
      rw [e1]
      refine (wheel_put_spec (m := { m1 with turn := m1.turn + 1, n := m1.n + 1 }) (t := ⟨id, m1.now + delay.toNat, m1.turn + 1⟩) h1'.len (hsm_of (k := 1000) (m := m1) (by omega)) (by dsimp only; omega) H).mono ?_
      rintro e w5 ⟨v, rfl, rfl, x, hx, H⟩
      refine ⟨rfl, Has.cell H rfl, Has.cell H rfl, rfl, ?_⟩
      refine wl_shut (h1'.set (d := delay.toNat) (by omega) (fun p hp => ?_) hlt hx) H
      simpa using (List.mem_filter.1 hp).2

end
end Go.Proofs.Ytdlalkhnppahfaa
