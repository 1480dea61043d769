/-
  Layer 4: a disk, the program's and its reference's: each does to the one plain disk what the other does.
-/
import Derived.Test.YtbcepafeiocobaaGreatLDisk
import Derived.Test.YtbcepafeiocobaaGreatXMap
import Derived.Test.YtbcepafeiocobaaGreatXScan
set_option maxRecDepth 8000
namespace Go.X
open Go

abbrev Fv := Option (List UInt8 × List UInt8)
def firm (x : Fv) : List UInt8 := match x with | some p => p.1 | none => []
def soft (x : Fv) : List UInt8 := match x with | some p => p.2 | none => []
def sz (x : Fv) : Nat := (firm x).length + (soft x).length

/-- A disk: its files, how many bytes it has room for, its fuel, whether it is off. -/
structure Dk where
  fl : Nat → Fv
  room : Nat
  fuel : Int
  off : Bool

def sumTo (g : Nat → Nat) (n : Nat) : Nat := if n = 0 then 0 else sumTo g (n - 1) + g (n - 1)
termination_by n
decreasing_by omega
def Dk.used (d : Dk) : Nat := sumTo (fun i => sz (d.fl i)) 16
def upd {α : Type} (f : Nat → α) (n : Nat) (x : α) : Nat → α := fun i => if i = n then x else f i
def Dk.put (d : Dk) (n : Nat) (p : List UInt8 × List UInt8) : Dk := { d with fl := upd d.fl n (some p) }

def Dk.step (d : Dk) : Bool × Dk :=
  if d.fuel = 0 then (false, { d with off := true }) else if 0 < d.fuel then (true, { d with fuel := d.fuel - 1 }) else (true, d)
def Dk.append (d : Dk) (n : Nat) (s : List UInt8) : Nat × Dk :=
  if d.off then (10, d) else if d.room < d.used + s.length then (11, d) else if d.step.1 then (0, d.step.2.put n (firm (d.fl n), soft (d.fl n) ++ s)) else (10, d.step.2)
def Dk.sync (d : Dk) (n : Nat) : Nat × Dk :=
  if d.off then (10, d) else if (d.fl n).isNone then (12, d) else if d.step.1 then (0, d.step.2.put n (firm (d.fl n) ++ soft (d.fl n), [])) else (10, d.step.2)
def Dk.replace (d : Dk) (n : Nat) (s : List UInt8) : Nat × Dk :=
  if d.off then (10, d) else if d.room + sz (d.fl n) < d.used + s.length then (11, d) else if d.step.1 then (0, d.step.2.put n (s, [])) else (10, d.step.2)
def Dk.read (d : Dk) (n : Nat) : List UInt8 × Nat := if d.off then ([], 10) else if (d.fl n).isNone then ([], 12) else (firm (d.fl n) ++ soft (d.fl n), 0)

structure Dk.ok (d : Dk) : Prop where
  room : d.room ≤ 1048576
  used : d.used ≤ d.room
  fuel : -1 ≤ d.fuel ∧ d.fuel ≤ 9223372036854775807

theorem sumTo_zero (g : Nat → Nat) : sumTo g 0 = 0 := by rw [sumTo, if_pos rfl]
theorem sumTo_succ (g : Nat → Nat) (n : Nat) : sumTo g (n + 1) = sumTo g n + g n := by rw [sumTo, if_neg (by omega)]; rfl
theorem sumTo_eq (g : Nat → Nat) : ∀ n, sumTo g n = ((List.range n).map g).sum
  | 0 => by rw [sumTo_zero]; rfl
  | n + 1 => by rw [sumTo_succ, sumTo_eq g n, List.range_succ]; simp

theorem sumTo_le (g : Nat → Nat) {n m : Nat} (h : n ≤ m) : sumTo g n ≤ sumTo g m := by
  induction m with
  | zero => have : n = 0 := by omega
            subst this; exact Nat.le_refl _
  | succ m ih =>
    by_cases hn : n = m + 1
    · subst hn; exact Nat.le_refl _
    · rw [sumTo_succ]; have := ih (by omega); omega

theorem sumTo_upd (f : Nat → Fv) (k : Nat) (x : Fv) : ∀ n, k < n → sumTo (fun i => sz (upd f k x i)) n + sz (f k) = sumTo (fun i => sz (f i)) n + sz x
  | 0, h => by omega
  | n + 1, h => by
    rw [sumTo_succ, sumTo_succ]
    by_cases hk : k = n
    · subst hk
      have e : ∀ m, m ≤ k → sumTo (fun i => sz (upd f k x i)) m = sumTo (fun i => sz (f i)) m := by
        intro m hm
        induction m with
        | zero => rw [sumTo_zero, sumTo_zero]
        | succ m ih =>
          rw [sumTo_succ, sumTo_succ, ih (by omega)]
          have : upd f k x m = f m := by unfold upd; rw [if_neg (by omega)]
          rw [this]
      rw [e k (Nat.le_refl _)]
      have : upd f k x k = x := by unfold upd; rw [if_pos rfl]
      rw [this]; omega
    · have ih := sumTo_upd f k x n (by omega)
      have : upd f k x n = f n := by unfold upd; rw [if_neg (by omega)]
      rw [this]; omega

theorem sz_le (f : Nat → Fv) {k n : Nat} (h : k < n) : sz (f k) ≤ sumTo (fun i => sz (f i)) n := by
  have h1 := sumTo_le (fun i => sz (f i)) (show k + 1 ≤ n by omega)
  rw [sumTo_succ] at h1
  omega

/-- A sum over some places, the others being empty. -/
theorem sum_places (g : Nat → Nat) : ∀ (rs ks : List Nat), rs.Nodup → ks.Nodup → (∀ k ∈ ks, k ∈ rs) → (∀ i ∈ rs, i ∉ ks → g i = 0) → (ks.map g).sum = (rs.map g).sum
  | [], ks, _, _, h, _ => by
    have : ks = [] := List.eq_nil_iff_forall_not_mem.2 fun k hk => by simpa using h k hk
    rw [this]
  | x :: rs, ks, hr, hk, h, h0 => by
    rw [List.nodup_cons] at hr
    by_cases hx : x ∈ ks
    · have hp := List.perm_cons_erase hx
      have e1 : (ks.map g).sum = g x + ((ks.erase x).map g).sum := by
        have := (hp.map g).sum_nat
        simpa using this
      rw [e1, List.map_cons, List.sum_cons, sum_places g rs (ks.erase x) hr.2 (hk.erase x) ?_ ?_]
      · intro k hk2
        have := (hk.mem_erase_iff).1 hk2
        rcases List.mem_cons.1 (h k this.2) with rfl | h
        · exact absurd rfl this.1
        · exact h
      · intro i hi hn
        refine h0 i (.tail _ hi) fun hik => hn ((hk.mem_erase_iff).2 ⟨fun e => hr.1 (by rw [← e]; exact hi), hik⟩)
    · have : g x = 0 := h0 x (.head _) hx
      rw [List.map_cons, List.sum_cons, this, Nat.zero_add]
      refine sum_places g rs ks hr.2 hk (fun k hk2 => ?_) (fun i hi => h0 i (.tail _ hi))
      rcases List.mem_cons.1 (h k hk2) with rfl | h
      · exact absurd hk2 hx
      · exact h

theorem step_fl (d : Dk) : d.step.2.fl = d.fl ∧ d.step.2.room = d.room := by
  unfold Dk.step; split
  · exact ⟨rfl, rfl⟩
  · split <;> exact ⟨rfl, rfl⟩

theorem Dk.ok.step {d : Dk} (h : d.ok) : d.step.2.ok := by
  have hf := step_fl d
  refine ⟨by rw [hf.2]; exact h.room, ?_, ?_⟩
  · unfold Dk.used; rw [hf.1, hf.2]; exact h.used
  · have := h.fuel
    unfold Dk.step; split
    · exact this
    · split
      · dsimp only; omega
      · exact this

theorem used_put (d : Dk) {n : Nat} (hn : n < 16) (p : List UInt8 × List UInt8) : (d.put n p).used + sz (d.fl n) = d.used + (p.1.length + p.2.length) := sumTo_upd d.fl n (some p) 16 hn

theorem Dk.ok.append {d : Dk} (h : d.ok) {n : Nat} (hn : n < 16) (s : List UInt8) : (d.append n s).2.ok := by
  unfold Dk.append
  split
  · exact h
  · split
    · exact h
    · rename_i hu
      have hs := h.step
      split
      · have := used_put d.step.2 hn (firm (d.fl n), soft (d.fl n) ++ s)
        have hf := step_fl d
        have e : d.step.2.used = d.used := by unfold Dk.used; rw [hf.1]
        rw [hf.1, e] at this
        have h2 : sz (d.fl n) = (firm (d.fl n)).length + (soft (d.fl n)).length := rfl
        rw [h2] at this
        simp only [List.length_append] at this
        refine ⟨hs.room, ?_, hs.fuel⟩
        show (d.step.2.put n _).used ≤ d.step.2.room
        rw [hf.2]; omega
      · exact hs

theorem Dk.ok.replace {d : Dk} (h : d.ok) {n : Nat} (hn : n < 16) (s : List UInt8) : (d.replace n s).2.ok := by
  unfold Dk.replace
  split
  · exact h
  · split
    · exact h
    · rename_i hu
      have hs := h.step
      split
      · have := used_put d.step.2 hn (s, [])
        have hf := step_fl d
        have e : d.step.2.used = d.used := by unfold Dk.used; rw [hf.1]
        rw [hf.1, e] at this
        simp only [List.length_nil] at this
        refine ⟨hs.room, ?_, hs.fuel⟩
        show (d.step.2.put n _).used ≤ d.step.2.room
        rw [hf.2]; omega
      · exact hs

theorem Dk.ok.sync {d : Dk} (h : d.ok) {n : Nat} (hn : n < 16) : (d.sync n).2.ok := by
  unfold Dk.sync
  split
  · exact h
  · split
    · exact h
    · have hs := h.step
      split
      · have := used_put d.step.2 hn (firm (d.fl n) ++ soft (d.fl n), [])
        have hf := step_fl d
        have e : d.step.2.used = d.used := by unfold Dk.used; rw [hf.1]
        rw [hf.1, e] at this
        have h2 : sz (d.fl n) = (firm (d.fl n)).length + (soft (d.fl n)).length := rfl
        rw [h2] at this
        simp only [List.length_append, List.length_nil] at this
        refine ⟨hs.room, ?_, hs.fuel⟩
        show (d.step.2.put n _).used ≤ d.step.2.room
        rw [hf.2]
        have := h.used
        omega
      · exact hs

/-! ### The program's -/

def fv (p : List UInt8 × List UInt8) : Value := .agg #[.string (bs p.1), .string (bs p.2)]

structure Fl (l : List (Int × Value)) (f : Nat → Fv) : Prop where
  nodup : (l.map (·.1)).Nodup
  key : ∀ p ∈ l, ∃ n : Nat, n < 16 ∧ p.1 = (n : Int)
  get : ∀ n : Nat, mget l (n : Int) = (f n).map fv

theorem Fl.at {l : List (Int × Value)} {f : Nat → Fv} (h : Fl l f) {k : Int} {v : Value} (hm : (k, v) ∈ l) : ∃ (n : Nat) (p : List UInt8 × List UInt8), n < 16 ∧ k = (n : Int) ∧ f n = some p ∧ v = fv p := by
  obtain ⟨n, hn, hk⟩ := h.key _ hm
  have hk : k = (n : Int) := hk
  subst hk
  have h1 := mget_mem h.nodup hm
  rw [h.get] at h1
  simp only [Option.map_eq_some_iff] at h1
  obtain ⟨p, hp, rfl⟩ := h1
  exact ⟨n, p, hn, rfl, hp, rfl⟩

theorem Fl.sum {l : List (Int × Value)} {f : Nat → Fv} (h : Fl l f) : (l.map fun p => sz (f p.1.toNat)).sum = sumTo (fun i => sz (f i)) 16 := by
  have e : (l.map fun p => sz (f p.1.toNat)) = (l.map fun p => p.1.toNat).map fun i => sz (f i) := by rw [List.map_map]; rfl
  rw [e, sumTo_eq]
  refine sum_places _ (List.range 16) _ List.nodup_range ?_ ?_ ?_
  · have h1 := List.pairwise_map.1 h.nodup
    refine List.pairwise_map.2 ?_
    refine List.Pairwise.imp_of_mem ?_ h1
    intro a b ha hb hne e
    obtain ⟨n, _, hn⟩ := h.key a ha
    obtain ⟨m, _, hm⟩ := h.key b hb
    rw [hn, hm] at e hne
    simp at e
    exact hne (by rw [e])
  · intro k hk
    obtain ⟨p, hp, rfl⟩ := List.mem_map.1 hk
    obtain ⟨n, hn, he⟩ := h.key p hp
    rw [he]; simpa using hn
  · intro i hi hni
    have : f i = none := by
      cases hf : f i with
      | none => rfl
      | some q =>
        have h1 := h.get i
        rw [hf] at h1
        have h2 := mget_of h1
        exact absurd (List.mem_map.2 ⟨_, h2, by simp⟩) hni
    rw [this]; rfl

theorem Fl.upd {l : List (Int × Value)} {f : Nat → Fv} (h : Fl l f) {n : Nat} (hn : n < 16) (p : List UInt8 × List UInt8) : Fl (mset l (n : Int) (fv p)) (upd f n (some p)) := by
  refine ⟨?_, ?_, fun m => ?_⟩
  · unfold mset
    split
    · have : (l.map fun q => if q.1 = (n : Int) then ((n : Int), fv p) else q).map (·.1) = l.map (·.1) := by
        rw [List.map_map]
        refine List.map_congr_left fun q _ => ?_
        by_cases hq : q.1 = (n : Int)
        · simp [hq]
        · simp [hq]
      rw [this]; exact h.nodup
    · rename_i hs
      rw [List.map_append, List.nodup_append]
      refine ⟨h.nodup, by simp, fun a ha b hb => ?_⟩
      simp at hb
      subst hb
      rintro rfl
      obtain ⟨q, hq, hqe⟩ := List.mem_map.1 ha
      have : (q.1, q.2) ∈ l := hq
      rw [hqe] at this
      rw [mget_mem h.nodup this] at hs
      exact hs rfl
  · intro q hq
    unfold mset at hq
    split at hq
    · obtain ⟨q', hq', rfl⟩ := List.mem_map.1 hq
      by_cases he : q'.1 = (n : Int)
      · rw [if_pos he]; exact ⟨n, hn, rfl⟩
      · rw [if_neg he]; exact h.key q' hq'
    · rcases List.mem_append.1 hq with hq | hq
      · exact h.key q hq
      · simp at hq; subst hq; exact ⟨n, hn, rfl⟩
  · rw [mget_mset]
    unfold X.upd
    by_cases he : m = n
    · subst he; simp
    · rw [if_neg he, if_neg (by omega)]; exact h.get m

/-- How many entries an iteration has left, read off the world. -/
def mleft (w : World) (it : Nat) : Nat :=
  match w.heap[it]? with
  | some (.mapIter (some m) _ seen _) => (match w.heap[m]? with | some (.map es _) => (leftOf es seen).size | _ => 0)
  | _ => 0

theorem Has.mleft {w0 w : World} {r : List A} {it b : Nat} {l left : List (Int × Value)} (H : Has w0 w (itA it b l left :: r)) : mleft w it = left.length := by
  obtain ⟨es, clock, seen, _, h2, H⟩ := H.it
  have := congrArg List.length h2
  unfold X.mleft
  rw [H.get]
  simp only []
  rw [H.f1.get]
  simpa using this

/-- The program's disk in memory. -/
def pdA (T b : Nat) (d : Dk) : A := ex fun p : Nat × List (Int × Value) => star (ca b T [.map (some p.1), .int .i64 (d.room : Int), .int .i64 d.fuel, .bool d.off]) (star (mpA p.1 p.2) (pur' (Fl p.2 d.fl)))

theorem Has.pd {w0 w : World} {r : List A} {T b : Nat} {d : Dk} (H : Has w0 w (pdA T b d :: r)) : ∃ mb l, Fl l d.fl ∧ Has w0 w (ca b T [.map (some mb), .int .i64 (d.room : Int), .int .i64 d.fuel, .bool d.off] :: mpA mb l :: r) := by
  obtain ⟨⟨mb, l⟩, H⟩ := H.ex
  have H := H.star.f1.star.f1
  obtain ⟨h1, H⟩ := H.pur
  exact ⟨mb, l, h1, H.f1⟩

theorem Has.mkpd {w0 w : World} {r : List A} {T b mb : Nat} {d : Dk} {l : List (Int × Value)} (h : Fl l d.fl) (H : Has w0 w (ca b T [.map (some mb), .int .i64 (d.room : Int), .int .i64 d.fuel, .bool d.off] :: mpA mb l :: r)) : Has w0 w (pdA T b d :: r) :=
  Has.mkex (mb, l) (Has.unstar (Has.f1 (Has.unstar ((H.f1.mkpur h).f1))))

end Go.X
namespace Go.Proofs.YtbcepafeiocobaaGreat
open Go.X

section
variable {w0 w : World} {r : List A} {b : Nat} {d : Dk}

theorem disk_Off_spec (H : Has w0 w (pdA 73 b d :: r)) : Calls Tryz.prog 43 #[pv b 0] w fun e w' => ∃ v, e = .returned v ∧ v = .bool d.off ∧ Has w0 w' (pdA 73 b d :: r) := by
  refine disk_Disk_Off.ok _ _ ?_
  obtain ⟨mb, l, hf, H2⟩ := H.pd
  exact ⟨_, H2.cell rfl, rfl, H⟩

theorem disk_Used_spec (H : Has w0 w (pdA 73 b d :: r)) (hu : d.used ≤ 4611686018427387904) : Calls Tryz.prog 72 #[pv b 0] w fun e w' => ∃ v, e = .returned v ∧ v = .int .i64 (d.used : Int) ∧ Has w0 w' (pdA 73 b d :: r) := by
  refine disk_Disk_Used.ok _ _ ?_
  obtain ⟨mb, l, hf, H⟩ := H.pd
  refine ⟨_, H.cell rfl, ?_⟩
  refine Has.rng rfl H.f1 fun it w1 H => ?_
  refine ⟨fun n w => ∃ (left : List (Int × Value)) (m : Nat), n = (m : Int) ∧ m + (left.map fun p => sz (d.fl p.1.toNat)).sum = d.used ∧ (∀ p ∈ left, p ∈ l) ∧
      Has w0 w (itA it mb l left :: ca b 73 [.map (some mb), .int .i64 (d.room : Int), .int .i64 d.fuel, .bool d.off] :: r), fun _ w => mleft w it, ⟨l, 0, rfl, by rw [hf.sum]; exact Nat.zero_add _, fun _ h => h, H⟩, ?_⟩
  clear H
  rintro _ n w2 ⟨left, m, rfl, hs, hsub, H⟩
  refine H.nx (fun h0 w3 H => ?_) fun a k v c w3 hl hent H3 => ?_
  · subst h0
    have : m = d.used := by simpa using hs
    subst this
    exact ⟨rfl, H.itEnd.f1.mkpd hf⟩
  · obtain ⟨i, p, hi, rfl, hp, rfl⟩ := hf.at (hsub (k, v) (by rw [hl]; simp))
    have hsz : sz (d.fl i) = p.1.length + p.2.length := by rw [hp]; rfl
    have hsum : m + (p.1.length + p.2.length) + ((a ++ c).map fun p => sz (d.fl p.1.toNat)).sum = d.used := by
      rw [← hs, hl]
      simp only [List.map_append, List.map_cons, List.sum_append, List.sum_cons, Int.toNat_natCast, hsz]
      omega
    refine ⟨_, _, _, rfl, rfl, _, _, _, hent, H3.al fun b1 w4 H => ?_⟩
    refine Has.st H (by simp) rfl fun w5 H => ?_
    refine ⟨_, H.cell rfl, _, H.cell rfl, ?_⟩
    simp only [bs_size]
    rw [w64_id (n := (p.1.length : Int) + _) (by omega), w64_id (by omega)]
    refine ⟨⟨a ++ c, m + (p.1.length + p.2.length), by omega, hsum, fun q hq => hsub q (by rw [hl]; simp at hq ⊢; rcases hq with h | h <;> simp [h]), H.drop⟩, ?_⟩
    have h1 := Has.mleft ‹Has w0 w2 _›
    have h2 := H.drop.mleft
    rw [h1, h2, hl]; simp
end
end Go.Proofs.YtbcepafeiocobaaGreat
