/-
  Layer 8 (store): a vote lasts: the law's anchor.
-/
import Derived.Test.YtbcepafeiocobaaGreatXRound
import Derived.Test.YtbcepafeiocobaaGreatXCrash
set_option maxRecDepth 8000
namespace Go.X
open Go

/-- A disk that is on and has fuel without end. -/
structure Inf (d : Dk) (room u : Nat) (n : Nat) (x : Fv) : Prop where
  off : d.off = false
  fuel : d.fuel = -1
  room : d.room = room
  used : d.used = u
  ok : d.ok
  val : d.fl n = x

theorem Inf.step {d : Dk} {room u n : Nat} {x : Fv} (h : Inf d room u n x) : d.step = (true, d) := by
  unfold Dk.step
  rw [h.fuel, if_neg (by omega), if_neg (by omega)]

theorem Inf.put {d : Dk} {room u n : Nat} {x : Fv} (h : Inf d room u n x) (hn : n < 16) (p : List UInt8 × List UInt8) (hu : u + (p.1.length + p.2.length) ≤ room + sz x) : Inf (d.put n p) room (u + (p.1.length + p.2.length) - sz x) n (some p) := by
  have h1 := used_put d hn p
  rw [h.val, h.used] at h1
  have hu2 : (d.put n p).used = u + (p.1.length + p.2.length) - sz x := by omega
  refine ⟨h.off, h.fuel, h.room, hu2, ⟨h.ok.room, ?_, h.ok.fuel⟩, ?_⟩
  · show (d.put n p).used ≤ d.room
    rw [hu2, h.room]; omega
  · show upd d.fl n (some p) n = _
    unfold upd; rw [if_pos rfl]

theorem Inf.replace {d : Dk} {room u n : Nat} {x : Fv} (h : Inf d room u n x) {s : List UInt8} (hu : u + s.length ≤ room + sz x) : d.replace n s = (0, d.put n (s, [])) := by
  unfold Dk.replace
  rw [h.off, h.step, h.used, h.room, h.val, if_neg (by simp), if_neg (by omega)]; rfl
theorem Inf.append {d : Dk} {room u n : Nat} {x : Fv} (h : Inf d room u n x) {s : List UInt8} (hu : u + s.length ≤ room) : d.append n s = (0, d.put n (firm x, soft x ++ s)) := by
  unfold Dk.append
  rw [h.off, h.step, h.used, h.room, h.val, if_neg (by simp), if_neg (by omega)]; rfl
theorem Inf.sync {d : Dk} {room u n : Nat} {p : List UInt8 × List UInt8} (h : Inf d room u n (some p)) : d.sync n = (0, d.put n (p.1 ++ p.2, [])) := by
  unfold Dk.sync
  rw [h.off, h.step, h.val, if_neg (by simp), if_neg (by simp)]; rfl
theorem Inf.read {d : Dk} {room u n : Nat} {x : Fv} (h : Inf d room u n x) : d.read n = if x.isNone then ([], 12) else (firm x ++ soft x, 0) := by
  unfold Dk.read
  rw [h.off, h.val, if_neg (by simp)]

/-- Opened, where no file is. -/
theorem Inf.opened0 {d : Dk} {room u n : Nat} (h : Inf d room u n none) (hn : n < 16) : ∃ d', d.opened n = (0, [], d') ∧ Inf d' room u n (some ([], [])) := by
  have hu : u ≤ room := by have := h.ok.used; rw [h.used, h.room] at this; exact this
  have hr := h.read
  rw [if_pos (show (none : Fv).isNone = true from rfl)] at hr
  have hs : d.start n = (0, d.put n ([], [])) := by
    unfold Dk.start
    rw [hr, if_pos rfl, h.replace (by simp; omega)]
  have h1 := h.put hn ([], []) (by simp; omega)
  have h2 := h1.put hn ([], []) (by simp [sz, firm, soft]; omega)
  have e : u + ([] : List UInt8).length + ([] : List UInt8).length - sz none = u := by simp [sz, firm, soft]
  refine ⟨(d.put n ([], [])).put n ([], []), ?_, ?_⟩
  · unfold Dk.opened
    rw [hs, hr]
    dsimp only
    rw [scan_nil, if_neg (by simp), if_neg (by simp), h1.sync]; rfl
  · have := h2
    simp [sz, firm, soft] at this
    exact this

/-- Opened, where whole records stand. -/
theorem Inf.opened1 {d : Dk} {room u n : Nat} {l : List UInt8} (h : Inf d room u n (some (l, []))) (hn : n < 16) (hl : (scan l).2 = l.length) : ∃ d', d.opened n = (0, (scan l).1, d') ∧ Inf d' room u n (some (l, [])) := by
  have hu : u ≤ room := by have := h.ok.used; rw [h.used, h.room] at this; exact this
  have hr := h.read
  have e1 : firm (some (l, [])) ++ soft (some (l, [])) = l := by simp [firm, soft]
  rw [if_neg (by simp), e1] at hr
  have hs : d.start n = (0, d) := by
    unfold Dk.start
    rw [hr, if_neg (by simp)]
  have hz : l.length ≤ u := by
    have := sz_le d.fl hn
    rw [h.val] at this
    have e : sumTo (fun i => sz (d.fl i)) 16 = u := h.used
    rw [e] at this
    simpa [sz, firm, soft] using this
  have h2 := h.put hn (l ++ [], []) (by simp [sz, firm, soft]; omega)
  refine ⟨d.put n (l ++ [], []), ?_, ?_⟩
  · unfold Dk.opened
    rw [hs, hr]
    dsimp only
    rw [if_neg (by simp), if_neg (by omega), h.sync]
  · have := h2
    simp [sz, firm, soft] at this
    simpa using this

theorem sumTo_none : ∀ n, sumTo (fun i => sz ((fun _ => none : Nat → Fv) i)) n = 0
  | 0 => sumTo_zero _
  | n + 1 => by rw [sumTo_succ, sumTo_none n]; rfl

theorem Inf.new {room : Nat} (h : room ≤ 1048576) (n : Nat) : Inf (Dk.new room) room 0 n none := ⟨rfl, rfl, rfl, sumTo_none 16, Dk.new_ok h, rfl⟩

/-- The entry and the state of the law's anchor. -/
def ent0 : Ent := ⟨3, 1, 0, []⟩
def st0 : St := ⟨3, 1, ⟨0, 0, 7, []⟩, [ent0]⟩
theorem ent0_ok : ent0.ok := ⟨by decide, by decide, by decide, by decide⟩

theorem recs0 : recsOf (first8 7) 3 1 [ent0] = [hardB 3 1, entB ent0] := by
  unfold recsOf recs1 recs2
  rw [if_neg (by decide)]
  dsimp only
  rw [if_neg (by decide)]
  rfl

theorem takes0 : takes (first8 7) [hardB 3 1, entB ent0] = some st0 := by
  simp only [takes]
  rw [take_hard (by omega) (by omega), Option.bind_some, take_ent ent0_ok (by decide) (by decide), Option.bind_some]
  rfl

theorem right1 : (first8 7).right = true := by decide
theorem right0 : st0.right = true := by decide

theorem len0 : (frames [hardB 3 1, entB ent0]).length ≤ 1000 ∧ long [hardB 3 1, entB ent0] = false := by
  have h1 := hardB_len (t := 3) (by omega) 1
  have h2 := entB_len ent0_ok
  have h3 : ent0.data.length = 0 := rfl
  have f1 := frame_len (hardB 3 1)
  have f2 := frame_len (entB ent0)
  constructor
  · simp only [frames, List.flatMap_cons, List.flatMap_nil, List.length_append, List.length_nil]; omega
  · simp only [long, List.any_cons, List.any_nil, Bool.or_false, Bool.or_eq_false_iff, decide_eq_false_iff_not]; omega

theorem open_new : ∃ d', (Dk.new 1000).open8 0 7 = (0, some (first8 7), d') ∧ Inf d' 1000 0 0 (some ([], [])) := by
  obtain ⟨d', h1, h2⟩ := (Inf.new (room := 1000) (by omega) 0).opened0 (by omega)
  refine ⟨d', ?_, h2⟩
  unfold Dk.open8
  rw [if_neg (by decide), h1]
  dsimp only
  rw [if_neg (by simp)]
  have e : takes (first8 7) [] = some (first8 7) := rfl
  rw [e]
  dsimp only
  rw [if_pos right1]

theorem save0 {d : Dk} (h : Inf d 1000 0 0 (some ([], []))) : ∃ d' u, save8 (first8 7) d 0 3 1 [ent0] = (0, st0, d') ∧ Inf d' 1000 u 0 (some (frames [hardB 3 1, entB ent0], [])) := by
  obtain ⟨l1, l2⟩ := len0
  have ha := h.append (s := frames [hardB 3 1, entB ent0]) (by omega)
  have e1 : firm (some ([], [])) = [] := rfl
  have e2 : soft (some ([], [])) ++ frames [hardB 3 1, entB ent0] = frames [hardB 3 1, entB ent0] := rfl
  rw [e1, e2] at ha
  have h1 := h.put (by omega) ([], frames [hardB 3 1, entB ent0]) (by simp [sz, firm, soft]; omega)
  have hs := h1.sync
  have h2 := h1.put (by omega) ([] ++ frames [hardB 3 1, entB ent0], []) (by simp [sz, firm, soft]; omega)
  have hw : d.wappend 0 [hardB 3 1, entB ent0] = (0, (d.put 0 ([], frames [hardB 3 1, entB ent0])).put 0 ([] ++ frames [hardB 3 1, entB ent0], [])) := by
    unfold Dk.wappend
    rw [if_neg (by simp [l2]), ha]
    dsimp only
    rw [if_neg (by simp), hs]
  refine ⟨_, _, ?_, h2⟩
  unfold save8
  rw [recs0, takes0]
  dsimp only
  rw [if_neg (by rw [right0]; simp), if_neg (by simp), hw]
  dsimp only
  rw [if_neg (by simp)]

theorem open_back {d : Dk} {u : Nat} (h : Inf d 1000 u 0 (some (frames [hardB 3 1, entB ent0], []))) : ∃ d', (d.crash []).open8 0 7 = (0, some st0, d') := by
  have hc : Inf (d.crash []) 1000 (d.crash []).used 0 (some (frames [hardB 3 1, entB ent0], [])) := by
    refine ⟨rfl, rfl, h.room, rfl, h.ok.crash [], ?_⟩
    show crashed [] 0 (d.fl 0) = _
    rw [h.val]
    unfold crashed
    dsimp only
    rw [if_pos (.inr (.inr rfl))]
    simp
  have hsc := scan_frames [hardB 3 1, entB ent0] len0.2 []
  rw [scan_nil, List.append_nil, List.append_nil] at hsc
  obtain ⟨d', h1, _⟩ := hc.opened1 (by omega) (by rw [hsc]; rfl)
  refine ⟨d', ?_⟩
  unfold Dk.open8
  rw [if_neg (by decide), h1, hsc]
  dsimp only
  rw [if_neg (by simp), takes0]
  dsimp only
  rw [if_pos right0]

end Go.X
namespace Go.Proofs.YtbcepafeiocobaaGreat
open Go.X

theorem begun_spec {w : World} : Calls Tryz.prog 4 #[] w fun e w' => ∃ v, e = .returned v ∧ v = .bool true ∧ Has w w' [] := by
  obtain ⟨d1, o1, i1⟩ := open_new
  obtain ⟨d2, u, o2, i2⟩ := save0 i1
  obtain ⟨d3, o3⟩ := open_back i2
  refine tontinelaw08_begun.ok ?_
  refine (disk_New_spec (room := 1000) (by omega) (Has.start w)).mono ?_
  rintro e w1 ⟨v, rfl, db, rfl, H⟩
  refine ⟨_, _, _, rfl, ?_⟩
  refine (store_Open_spec (n := 0) (m := 7) (Dk.new_ok (by omega)) (by omega) (by omega) H).mono ?_
  rintro e w2 ⟨v, rfl, hcase⟩
  rw [o1] at hcase
  obtain ⟨hs1, _, _, _, b, a, c, rfl, H⟩ := hcase
  refine ⟨_, _, _, _, _, _, _, _, _, _, _, _, rfl, H.al fun b1 w3 H => Has.st H (by simp) rfl fun w4 H => H.al fun b2 w5 H => ?_⟩
  have H := (Has.mkow (sz := 4) (n := 1) (vs := ecs [ent0]) H rfl (by decide)).pl0.f1.plAdd
  have i1ok : d1.ok := i1.ok
  refine (store_Save_spec (n := 0) (t := 3) (v := 1) (l := [ent0]) hs1 i1ok (by omega) (by omega) (by omega) (by intro e he; simp at he; subst he; exact ent0_ok) (by simp [first8]) Rb.hd H.f4.f3.f2).mono ?_
  rintro e w6 ⟨x, rfl, rfl, H⟩
  rw [o2] at H ⊢
  refine ⟨_, rfl, ?_⟩
  refine (disk_Crash_spec (ks := []) i2.ok (by simp) (by simp) (fun _ => Vw.nil) H.f2).mono ?_
  rintro e w7 ⟨x, rfl, b3, rfl, H⟩
  refine ⟨_, _, rfl, ?_⟩
  refine (store_Open_spec (n := 0) (m := 7) (i2.ok.crash []) (by omega) (by omega) H).mono ?_
  rintro e w8 ⟨v, rfl, hcase⟩
  rw [o3] at hcase
  obtain ⟨_, _, _, _, b4, a4, c4, rfl, H⟩ := hcase
  refine ⟨_, _, _, _, _, _, _, _, _, _, _, _, rfl, H.al fun b5 w9 H => Has.st H (by simp) rfl fun w10 H => ?_⟩
  refine bif_t rfl (bif_t rfl (bif_t rfl ⟨_, H.f7.cell rfl, bif_t rfl ⟨_, _, H.row rfl, _, (eq_hard 3 3 1 1).1, bif_t rfl ⟨_, _, _, H.cell rfl, rfl, ?_⟩⟩⟩))
  exact H.drop.drop.drop.drop.drop.drop.drop.drop.drop

end Go.Proofs.YtbcepafeiocobaaGreat
