/-
  The engine at a range over a function: its rounds, its iterator (where 'yield' is called), and the function that holds it.
-/
import Derived.Test.YtdlalkhnppahfaaXDen
import Derived.Test.YtdlalkhnppahfaaXRo
import Derived.RangeFuncNested
import Derived.RangeFuncBound
import Derived.RangeFuncCalls
import Derived.RangeFuncLeaves
import Derived.TacticsIn
import Derived.OrdersIn
import Derived.Below
namespace Go.X
open Go

/-- Without fence, in a round or in none. -/
abbrev FW (r : Option Nat) : Fence := { Fence.wide with round := r }

section
variable {P : Program} {r : Option Nat}

theorem callsIn_FW {f : FuncId} {args : Array Value} {w : World} {R : Ending → World → Prop} (h : Calls P f args w R) : CallsIn (FW r) 0 P f args w R := (callsIn_wide (n := 0)).2 h
theorem rowsIn_FW {row : String} {args : Array Value} {w : World} {R : Value → World → Prop} (h : Rows P row args w R) : RowsIn (FW r) 0 P row args w R :=
  fun c cs _ => let ⟨v, w', q, s⟩ := h c cs; ⟨v, w', q, stepsIn_wide.2 s⟩

theorem upon_upIn {o : Oper} {a : Act} {next : Act → World → Prop} {Q : Exit → Act → World → Prop} {x : Result Next} (h : o.upon P a next Q x) : o.uponIn (FW r) 0 P a next Q x := by
  cases x with
  | ok x w' =>
    cases x <;> simp only [Oper.upon, Oper.uponIn] at h ⊢
    case value v => exact h
    case skip => exact h
    case defer d => exact h
    case enter f args => exact ⟨fun h => (by cases h), callsIn_FW h⟩
    case row row args => exact ⟨fun h => (by cases h), rowsIn_FW h⟩
  | halt x w' =>
    cases x <;> simp only [Oper.upon, Oper.uponIn] at h ⊢
    case panic u => exact h

theorem wpOp_In {ops : Array Oper} {Q : Exit → Act → World → Prop} (hnd : ∀ o ∈ ops, ∀ c, o.op ≠ .defer c) (hQ : ¬ LetsOut Q) {i : Nat} {K K' : Act → World → Prop} {a : Act} {w : World}
    (hK : ∀ a w, K a w → K' a w) (h : wpOp P ops Q i K a w) : wpOpIn (FW r) 0 P ops Q i K' a w := by
  unfold wpOp at h
  unfold wpOpIn
  split
  · rename_i ho
    rw [ho] at h
    exact hK _ _ h
  · rename_i o ho
    rw [ho] at h
    dsimp only at h
    have hn := hnd o (Array.mem_of_getElem? ho)
    split
    · rename_i hw
      rw [if_pos hw] at h
      rcases h with h | h
      · refine ⟨fun _ _ => trivial, ?_⟩
        rw [Oper.semAt_eq _ _ _ hn]
        exact upon_upIn (Oper.wp_mono hK h)
      · exact absurd h.2 hQ
    · rename_i hw
      rw [if_neg hw] at h
      exact ⟨fun _ _ => trivial, hK _ _ h⟩

theorem wpAny_In {md : Region.Mode} {ops : Array Oper} {Q : Exit → Act → World → Prop} (hnd : ∀ o ∈ ops, ∀ c, o.op ≠ .defer c) (hQ : ¬ LetsOut Q) : ∀ (fuel : Nat) (listed : Array Bool) (a : Act) (w : World),
    wpAny P md ops Q fuel listed a w → wpAnyIn (FW r) 0 P md ops Q fuel listed a w
  | 0, _, _, _, h => h
  | fuel + 1, _, _, _, h => ⟨h.1, fun i hi => wpOp_In hnd hQ (fun a w => wpAny_In hnd hQ fuel _ a w) (h.2 i hi)⟩

/-! ### Calls of yield -/

/-- A call of a yield: one round is run; it answers whether to go on. -/
def yieldC (P : Program) (l : Nat) (args : Array Value) (K : Value → World → Prop) (w : World) : Prop :=
  YieldAt Fence.wide 0 P l args w fun e w' => ∃ b : Bool, e = .returned (.bool b) ∧ K (.bool b) w'

def dopY (P : Program) (H : Hints) (o : Oper) (ρ : Env) (K : Value → World → Prop) (w : World) : Prop :=
  match o.op with
  | .call { callee := .value x, args, .. } =>
    match ev ρ x with
    | .func (.yield l) fs _ => yieldC P l (fs ++ args.map (ev ρ)) K w
    | _ => dop P H o ρ K w
  | _ => dop P H o ρ K w

theorem dopY_sound {H : Hints} {o : Oper} {a : Act} {w : World} {K : Value → World → Prop} {next : Act → World → Prop} {Q : Exit → Act → World → Prop} (h : dopY P H o (envOf a) K w) (hk : ∀ v w', K v w' → next (a.put o.dst v) w') :
    o.wpIn (FW r) 0 P a w next Q := by
  have plain : dop P H o (envOf a) K w → o.wpIn (FW r) 0 P a w next Q := fun h => by
    have hnd : ∀ c, o.op ≠ .defer c := by
      intro c hc
      have h3 : cls P o = 3 := by unfold cls; rw [hc]
      unfold dop at h
      rw [h3] at h
      exact h
    refine ⟨fun _ _ => trivial, ?_⟩
    rw [Oper.semAt_eq _ _ _ hnd, eval_env]
    exact upon_upIn (good_upon (dop_sound h) hk)
  unfold dopY at h
  split at h
  · rename_i x args ats ho
    split at h
    · rename_i l fs lb hx
      have hnd : ∀ c, o.op ≠ .defer c := by intro c hc; rw [ho] at hc; cases hc
      obtain ⟨fn, tmps, assign, body, hy, hr⟩ := h
      refine ⟨fun _ _ => trivial, ?_⟩
      rw [Oper.semAt_eq _ _ _ hnd, eval_env]
      have hrun : (execOp (ev (envOf a)) o).run P w = .ok (.round l fn tmps assign body) w := by
        simp only [execOp, ho, resolve, hx, Deferred.ofValue, invoke, Sem.run_bind, Sem.run_pure, Result.andThen_ok]
        exact hy
      rw [hrun]
      refine ⟨fun h => (by cases h), hr.mono fun e w' he => ?_⟩
      obtain ⟨b, rfl, he⟩ := he
      exact hk _ _ he
    · exact plain h
  · exact plain h

/-- A region's operations, one behind the other, calls of yield among them. -/
def dopsY (P : Program) (H : Hints) (N : Nat) (all : List Oper) : List Oper → (Env → World → Prop) → Env → World → Prop
  | [], K, ρ, w => K ρ w
  | o :: r, K, ρ, w =>
    let next := fun (ρ : Env) => fun v w' => dopsY P H N all r K (put N ρ o.dst v) w'
    match o.guard with
    | none => dopY P H o ρ (next ρ) w
    | some (j, want) =>
      match gslot all j with
      | none => False
      | some d =>
        match ρ d with
        | .bool b =>
          match b with
          | true => bif want then dopY P H o (put N ρ (some d) (.bool true)) (next (put N ρ (some d) (.bool true))) w else next (put N ρ (some d) (.bool true)) undef w
          | false => bif want then next (put N ρ (some d) (.bool false)) undef w else dopY P H o (put N ρ (some d) (.bool false)) (next (put N ρ (some d) (.bool false))) w
        | .tuple _ => next ρ undef w
        | _ => False

theorem dopsY_sound {H : Hints} {N : Nat} {ops : Array Oper} {Q : Exit → Act → World → Prop} :
    ∀ (l : List Oper) {K : Env → World → Prop} {a : Act} {w : World}, a.tmps.size = N → dopsY P H N ops.toList l K (envOf a) w →
      (∀ a' w', Kept N (dsts l) a a' → K (envOf a') w' → Q .normal a' w') → wpListIn (FW r) 0 P ops Q l a w
  | [], K, a, w, hN, h, hk => hk a w (Kept.refl hN) h
  | o :: l, K, a, w, hN, h, hk => by
    have sub1 : ∀ s ∈ o.dst.toList, s ∈ dsts (o :: l) := by
      intro s hs
      cases hd : o.dst with
      | none => rw [hd] at hs; cases hs
      | some d => rw [hd] at hs; simp at hs; subst hs; simp [dsts, hd]
    have sub2 : ∀ s ∈ dsts l, s ∈ dsts (o :: l) := by
      intro s hs
      cases hd : o.dst with
      | none => simpa [dsts, hd] using hs
      | some d => simp only [dsts, List.filterMap_cons, hd]; exact List.mem_cons_of_mem _ hs
    have next : ∀ (v : Value) (w' : World), dopsY P H N ops.toList l K (put N (envOf a) o.dst v) w' → wpListIn (FW r) 0 P ops Q l (a.put o.dst v) w' := fun v w' hd =>
      dopsY_sound l (size_put hN _ _) (by rw [env_put hN]; exact hd) fun a' w'' hkept hK =>
        hk a' w'' ((Kept.put hN o.dst v).trans hkept sub1 sub2) hK
    have runs : dopY P H o (envOf a) (fun v w' => dopsY P H N ops.toList l K (put N (envOf a) o.dst v) w') w →
        ∀ K' : Act → World → Prop, (∀ a w, wpListIn (FW r) 0 P ops Q l a w → K' a w) → o.wpIn (FW r) 0 P a w K' Q := fun hd K' hK' =>
      dopY_sound hd fun v w' hv => hK' _ _ (next v w' hv)
    refine wpListIn_step fun K' hK' => ?_
    have skip : K' (a.put o.dst undef) w → (∀ f, o.about P w a.eval = some f → (FW r).fn f) ∧ K' (a.put o.dst undef) w := fun h => ⟨fun _ _ => trivial, h⟩
    unfold dopsY at h
    dsimp only at h
    split at h
    · rename_i hg
      rw [if_pos (by simp [Region.wanted, hg])]
      exact runs h K' hK'
    · rename_i j want hg
      split at h
      · exact h.elim
      · rename_i d hj
        rw [wanted_env hg hj]
        split at h
        · rename_i b hb
          simp only [hb]
          cases b with
          | true =>
            simp only [put_self hb] at h
            cases want with
            | true => simp only [cond_true] at h; exact runs h K' hK'
            | false => simp only [cond_false] at h; simp only [Bool.true_beq, Bool.false_eq_true, if_false]; exact skip (hK' _ _ (next _ _ h))
          | false =>
            simp only [put_self hb] at h
            cases want with
            | true => simp only [cond_true] at h; simp only [Bool.false_beq, Bool.not_true, Bool.false_eq_true, if_false]; exact skip (hK' _ _ (next _ _ h))
            | false => simp only [cond_false] at h; exact runs h K' hK'
        · rename_i vs hb
          simp only [hb, Bool.false_eq_true, if_false]
          exact skip (hK' _ _ (next _ _ h))
        · exact h.elim

def noDefer (ops : Array Oper) : Bool := ops.all fun o => match o.op with | .defer _ => false | _ => true

/-- The engine's word for code in a round, or in an iterator. -/
def denY (P : Program) (H : Hints) (N : Nat) : Code → (Exit → Env → World → Prop) → Env → World → Prop
  | .skip, Q, ρ, w => Q .normal ρ w
  | .label _, Q, ρ, w => Q .normal ρ w
  | .region id ops draw, Q, ρ, w =>
    bif draw then (match lookN id H.plans with
      | some p => bif planOk ops p && noDefer ops then drewD w (fun w' => drD P H N ops (Q .normal) p [] ρ w') else False
      | none => False)
    else dopsY P H N ops.toList ops.toList (Q .normal) ρ w
  | .seq a b, Q, ρ, w =>
    match lookN (firstR b) H.joins with
    | some l => ∃ J : CurT (World → Prop) l, denY P H N a (seqK (fun ρ1 w1 => appP l J noW ρ1 w1) Q) ρ w ∧
        ∀ jk : Env, allJ l J (havoc (writes a) jk ρ) fun ρ1 w1 => denY P H N b Q ρ1 w1
    | none => denY P H N a (seqK (denY P H N b Q) Q) ρ w
  | .cond c x y, Q, ρ, w => match ev ρ c with
    | .bool b => match b with
      | true => denY P H N x Q ρ w
      | false => denY P H N y Q ρ w
    | _ => False
  | .block id c, Q, ρ, w => denY P H N c (blkK id Q) ρ w
  | .loop c, Q, ρ, w =>
    match lookN (firstR c) H.loops with
    | some l => ∃ (I : CurT (World → Prop) l) (μ : CurT (World → Nat) l), appP l I noW ρ w ∧
        ∀ jk : Env, allT l I μ (havoc (writes c) jk ρ) fun ρ1 m w1 => denY P H N c (seqK (fun ρ2 w2 => appP l I noW ρ2 w2 ∧ appP l μ noN ρ2 w2 < m w1) Q) ρ1 w1
    | none => False
  | .exit id, Q, ρ, w => Q (.exit id) ρ w
  | .ret, Q, ρ, w => Q .ret ρ w
  | _, _, _, _ => False

theorem noDefer_spec {ops : Array Oper} (h : noDefer ops = true) : ∀ o ∈ ops, ∀ c, o.op ≠ .defer c := by
  intro o ho c hc
  have := Array.all_eq_true'.1 h o ho
  simp [hc] at this

theorem denY_sound {H : Hints} {N : Nat} (hm : P.follows .mixedOrders = true) : ∀ (c : Code) {Q : Exit → Env → World → Prop} {a : Act} {w : World}, a.tmps.size = N →
    denY P H N c Q (envOf a) w → c.wpIn (FW r) 0 P (owed N (writes c) a Q) a w
  | .skip, Q, a, w, hN, h => wpIn_skip ⟨trivial, Kept.refl hN, h⟩
  | .label _, Q, a, w, hN, h => wpIn_label ⟨trivial, Kept.refl hN, h⟩
  | .region id ops draw, Q, a, w, hN, h => by
    unfold denY at h
    cases draw with
    | false =>
      simp only [cond_false] at h
      refine wpIn_region_list (dopsY_sound (H := H) ops.toList hN h fun a' w' hk hq => ⟨trivial, hk, hq⟩)
    | true =>
      simp only [cond_true] at h
      split at h
      · rename_i p hp
        cases hok : (planOk ops p && noDefer ops) with
        | false => rw [hok] at h; exact h.elim
        | true =>
          rw [hok] at h
          rw [Bool.and_eq_true] at hok
          obtain ⟨hok, hnd⟩ := hok
          simp only [planOk, Bool.and_eq_true] at hok
          obtain ⟨⟨hok, hns⟩, hlen⟩ := hok
          refine wpIn_region_any hm (wpAny_In (noDefer_spec hnd) (fun ⟨_, _, hq⟩ => hq.1) _ _ _ _ (wpAny_of_wpM _ (L := []) (drD_sound (H := H) (N := N) (K := Q .normal) (fun c a w hq => hq.1) hns p ops.size _ [] a _ (Nat.le_of_ble_eq_true hlen) hok hN
            (fun q hq => by cases hq) (h _ rfl) fun a' w' hk hq => ⟨trivial, hk, hq⟩)))
      · exact h.elim
  | .seq x y, Q, a, w, hN, h => by
    have key : ∃ F : Env → World → Prop, denY P H N x (seqK F Q) (envOf a) w ∧ ∀ (a' : Act) (w' : World), Kept N (writes x) a a' → F (envOf a') w' → denY P H N y Q (envOf a') w' := by
      unfold denY at h
      split at h
      · rename_i l hl
        obtain ⟨J, h1, h2⟩ := h
        refine ⟨_, h1, fun a' w' hk hJ => ?_⟩
        have hb := h2 (envOf a')
        rw [havoc_same hk.same] at hb
        exact allT_app l (allJ_allT l hb) hJ
      · exact ⟨_, h, fun a' w' _ h => h⟩
    obtain ⟨F, h, hF⟩ := key
    refine wpIn_seq (wpIn_mono (denY_sound hm x hN h) fun e a' w' hq => ?_)
    obtain ⟨hok, hk, hq⟩ := hq
    cases e with
    | normal =>
      refine wpIn_mono (denY_sound hm y hk.size (hF a' w' hk hq)) (owed_less (hk.trans (Kept.refl (W := []) hk.size) (fun s hs => List.mem_append_left _ hs) (fun s hs => by cases hs)) (fun s hs => List.mem_append_right _ hs) fun _ _ _ _ h => h)
    | exit id => exact ⟨trivial, hk.trans (Kept.refl (W := []) hk.size) (fun s hs => List.mem_append_left _ hs) (fun s hs => by cases hs), hq⟩
    | ret => exact ⟨trivial, hk.trans (Kept.refl (W := []) hk.size) (fun s hs => List.mem_append_left _ hs) (fun s hs => by cases hs), hq⟩
    | goto l => exact hok.elim
    | panic ch => exact hok.elim
    | outgrown => exact hok.elim
  | .cond c x y, Q, a, w, hN, h => by
    unfold denY at h
    rw [← eval_env] at h
    split at h
    · rename_i b hb
      cases b with
      | true => exact wpIn_cond_true hb (wpIn_mono (denY_sound hm x hN h) (owed_less (Kept.refl hN) (fun s hs => List.mem_append_left _ hs) fun _ _ _ _ h => h))
      | false => exact wpIn_cond_false hb (wpIn_mono (denY_sound hm y hN h) (owed_less (Kept.refl hN) (fun s hs => List.mem_append_right _ hs) fun _ _ _ _ h => h))
    · exact h.elim
  | .block id c, Q, a, w, hN, h => by
    refine wpIn_block (wpIn_mono (denY_sound hm c hN h) fun e a' w' hq => ?_)
    obtain ⟨hok, hk, hq⟩ := hq
    cases e with
    | normal => exact ⟨trivial, hk, hq⟩
    | exit i =>
      simp only [blkK] at hq
      simp only [Exit.inBlock]
      by_cases hi : i = id
      · subst hi
        rw [show Nat.beq i i = true from Nat.beq_refl i] at hq
        rw [if_pos rfl]
        exact ⟨trivial, hk, hq⟩
      · have : Nat.beq i id = false := by
          cases hb : Nat.beq i id with
          | false => rfl
          | true => exact absurd (Nat.eq_of_beq_eq_true hb) hi
        rw [this] at hq
        rw [if_neg hi]
        exact ⟨trivial, hk, hq⟩
    | ret => exact ⟨trivial, hk, hq⟩
    | goto l => exact hok.elim
    | panic ch => exact hok.elim
    | outgrown => exact hok.elim
  | .loop c, Q, a, w, hN, h => by
    unfold denY at h
    split at h
    · rename_i l hl
      obtain ⟨I, μ, h0, hr⟩ := h
      refine wpIn_loop (fun a1 w1 => Kept N (writes c) a a1 ∧ appP l I noW (envOf a1) w1) (fun a1 w1 => appP l μ noN (envOf a1) w1) ⟨Kept.refl hN, h0⟩ fun a1 w1 h1 => ?_
      obtain ⟨hk, hI⟩ := h1
      have hb := hr (envOf a1)
      rw [havoc_same hk.same] at hb
      have hb := allT_app l hb hI
      refine wpIn_mono (denY_sound hm c hk.size hb) fun e a' w' hq => ?_
      obtain ⟨hok, hk2, hq⟩ := hq
      have hk3 : Kept N (writes c) a a' := hk.trans hk2 (fun _ h => h) (fun _ h => h)
      cases e with
      | normal => exact ⟨⟨hk3, hq.1⟩, hq.2⟩
      | exit id => exact ⟨trivial, hk3, hq⟩
      | ret => exact ⟨trivial, hk3, hq⟩
      | goto l => exact hok.elim
      | panic ch => exact hok.elim
      | outgrown => exact hok.elim
    · exact h.elim
  | .exit id, Q, a, w, hN, h => wpIn_exit ⟨trivial, Kept.refl hN, h⟩
  | .ret, Q, a, w, hN, h => wpIn_ret ⟨trivial, Kept.refl hN, h⟩
  | .scope _, _, _, _, _, h => h.elim
  | .rangeFunc .., _, _, _, _, h => h.elim
  | .goto _, _, _, _, _, h => h.elim
  | .refuse _, _, _, _, _, h => h.elim

/-! ### Iterators -/

/-- A function's call, calls of yield among its operations. -/
def fnDY (P : Program) (H : Hints) (fn : Func) (args : List Value) (R : Value → World → Prop) (w : World) : Prop :=
  match fn.body with
  | some c => denY P H fn.ntmps c (fnQ P H fn R) (env0 args) w
  | none => False

theorem env0_of {args : List Value} {n : Nat} (hle : args.length ≤ n) : envOf { tmps := args.toArray ++ Array.replicate (n - args.toArray.size) undef, defers := [] } = env0 args := by
  funext k
  simp only [envOf, env0, Array.getD_eq_getD_getElem?, Array.getElem?_append, List.size_toArray, List.getElem?_toArray, Array.getElem?_replicate, List.getD_eq_getElem?_getD]
  by_cases h1 : k < args.length
  · simp [h1]
  · simp only [h1, if_false, List.getElem?_eq_none (Nat.le_of_not_lt h1), Option.getD_none]
    split <;> rfl

theorem results_of {H : Hints} {fn : Func} {R : Value → World → Prop} {a : Act} {w : World} (h : resD P H (envOf a) w fn.results.toList fun vs => R (tup vs) w) : ∃ v, (results fn a.tmps).run P w = .ok v w ∧ R v w := by
  obtain ⟨vs, h1, h2⟩ := resD_sound _ h
  refine ⟨tup vs, ?_, h2⟩
  have hmap : (fn.results.mapM (rv a)).run P w = .ok vs.toArray w := by
    rw [Array.mapM_eq_mapM_toList]
    simp only [map_eq_pure_bind, Sem.run_bind, h1, Result.andThen_ok, Sem.run_pure]
  have hrs : results fn a.tmps = (do let vs ← fn.results.mapM (rv a); pure (if h : vs.size = 1 then vs[0] else .tuple vs) : Sem Value) := by
    unfold results
    congr 1
  rw [hrs]
  simp only [Sem.run_bind, hmap, Result.andThen_ok, Sem.run_pure]
  match vs with
  | [] => rfl
  | [v] => rfl
  | v :: u :: r => simp [tup]

theorem fnY_sound {H : Hints} {f : Nat} {fn : Func} {args : List Value} {R : Value → World → Prop} {w : World} (hm : P.follows .mixedOrders = true) (hf : P.funcs[f]? = some fn)
    (hn : Nat.ble args.length fn.ntmps = true) (h : fnDY P H fn args R w) : Calls P f args.toArray w fun e w' => ∃ v, e = .returned v ∧ R v w' := by
  unfold fnDY at h
  split at h
  · rename_i c hb
    have hle := Nat.le_of_ble_eq_true hn
    refine (callsIn_wide (n := 0)).1 (callsIn_of_wp hf hb trivial ?_ rfl)
    have hN : ({ tmps := args.toArray ++ Array.replicate (fn.ntmps - args.toArray.size) undef, defers := [] } : Act).tmps.size = fn.ntmps := by simp; omega
    refine wpIn_mono (denY_sound (r := none) (H := H) hm c hN (by rw [env0_of hle]; exact h)) fun e a' w' hq => ?_
    obtain ⟨hok, hk, hq⟩ := hq
    have hres : ∀ (hq : resD P H (envOf a') w' fn.results.toList fun vs => R (tup vs) w'), a'.defers = [] ∧ ∃ v, (results fn a'.tmps).run P w' = .ok v w' ∧ ∃ v', Ending.returned v = .returned v' ∧ R v' w' := by
      intro hq
      obtain ⟨v, h1, h2⟩ := results_of hq
      exact ⟨hk.defers, v, h1, v, rfl, h2⟩
    cases e with
    | normal => exact hres hq
    | ret => exact hres hq
    | exit id => exact hq.elim
    | goto l => exact hok.elim
    | panic ch => exact hok.elim
    | outgrown => exact hok.elim
  · exact h.elim

/-! ### The function that holds a range over a function -/

def evA (N : Nat) : List Oper → Env → Option Env
  | [], ρ => some ρ
  | o :: l, ρ => match o.op, o.guard with
    | .assign x, none => evA N l (put N ρ o.dst (ev ρ x))
    | _, _ => none
/-- The assignment to a loop's left sides. -/
def evalA (N : Nat) : Code → Env → Option Env
  | .region _ ops false, ρ => evA N ops.toList ρ
  | _, _ => none

theorem evA_dops {H : Hints} {N : Nat} {all : List Oper} {w : World} : ∀ (l : List Oper) {ρ ρ1 : Env}, evA N l ρ = some ρ1 → ∀ {K : Env → World → Prop}, K ρ1 w → dopsY P H N all l K ρ w
  | [], ρ, ρ1, h, K, hK => by simp only [evA, Option.some.injEq] at h; subst h; exact hK
  | o :: l, ρ, ρ1, h, K, hK => by
    unfold evA at h
    split at h
    · rename_i x ho hg
      unfold dopsY
      dsimp only
      rw [hg]
      dsimp only
      unfold dopY
      rw [ho]
      dsimp only
      have hc : cls P o = 0 := by unfold cls; rw [ho]
      unfold dop
      rw [hc]
      dsimp only
      unfold wlop
      rw [ho]
      have hp : pur P (execOp (ev ρ) o) = some (.value (ev ρ x)) := by simp only [execOp, ho]; rfl
      simp only [hp]
      exact evA_dops l h hK
    · cases h

theorem evalA_den {H : Hints} {N : Nat} {c : Code} {ρ ρ1 : Env} (h : evalA N c ρ = some ρ1) (w : World) : denY P H N c (fun e ρ2 w2 => e = .normal ∧ ρ2 = ρ1 ∧ w2 = w) ρ w := by
  unfold evalA at h
  split at h
  · unfold denY
    simp only [cond_false]
    exact evA_dops _ h ⟨trivial, rfl, rfl⟩
  · cases h

/-- An iterator's contract: whatever a loop's rounds keep (and what the iterator reads lies in it), it yields these pointers, in this order. -/
def IterC (P : Program) (gf : Nat) (fs lb : Array Value) (N : Nat) (x : Nat → Nat × Nat) (RD : World → Prop) : Prop :=
  ∀ (l : Nat) (J : Nat → World → Prop) (Jx : World → Prop) (W : World), (∀ i W, J i W → RD W) →
    (∀ i W1, i < N → J i W1 → YieldAt Fence.wide 0 P l #[pv (x i).1 (x i).2] W1 fun e W' => (e = .returned (.bool true) ∧ J (i + 1) W') ∨ (e = .returned (.bool false) ∧ Jx W')) →
    J 0 W → Calls P gf (fs ++ #[.func (.yield l) #[] #[]] ++ lb) W fun e W' => (∃ v, e = .returned v) ∧ (J N W' ∨ Jx W')

/-- Turned by no more than blocks that hold no cells, from B on. -/
def Loose (B : Nat) (I : World → Prop) : Prop := ∀ W W' row, I W → W.grownBy W' row → (∀ k, row = some k → B ≤ k ∧ ∃ o : Obj, W.heap[k]? = some o ∧ o.isCells = false) → I W'

/-- The loop's two blocks. -/
def keepsD (w W : World) (rc : Loop) : Prop := W.heap[w.heap.size]? = some (.deferred (some [])) ∧ W.heap[w.heap.size + 1]? = some (.loop rc)

def rngD (P : Program) (gf : Nat) (fs lb : Array Value) (body : Value → (World → Prop) → (World → Prop) → World → Prop) (done ret : World → Prop) (w : World) : Prop :=
  (∀ args w, (callFunc gf args).run P w = .ok (.enter gf args) w) ∧
  ∃ (N : Nat) (x : Nat → Nat × Nat) (RD : World → Prop) (I : Nat → World → Prop) (X : World → Prop),
    IterC P gf fs lb N x RD ∧ (∀ i W, I i W → RD W) ∧ (∀ i, Loose w.heap.size (I i)) ∧ Loose w.heap.size X ∧ I 0 w ∧
    (∀ i W rc, i < N → I i W → keepsD w W rc → body (pv (x i).1 (x i).2) (fun W' => I (i + 1) W' ∧ keepsD w W' rc) (fun W' => X W' ∧ keepsD w W' rc) W) ∧
    (∀ W, I N W → W.heap[w.heap.size]? = some (.deferred (some [])) → done W) ∧
    (∀ W, X W → W.heap[w.heap.size]? = some (.deferred (some [])) → ret W)

theorem Loose.putObj {B : Nat} {I : World → Prop} (h : Loose B I) {W : World} {l : Nat} {o : Obj} (o' : Obj) (hs : I W) (hB : B ≤ l) (hl : W.heap[l]? = some o) (ho : o.isCells = false) : I (W.putObj l o') :=
  h W _ (some l) hs (grownBy_putObj' W l o') (fun k e => by cases e; exact ⟨hB, o, hl, ho⟩)
theorem Loose.alloc {B : Nat} {I : World → Prop} (h : Loose B I) {W : World} (o : Obj) (hs : I W) : I (W.alloc o) :=
  h W _ none hs (World.grownBy_alloc W o none) (fun k e => by cases e)

theorem rng_rule {H : Hints} {N : Nat} (hm : P.follows .mixedOrders = true) {g : Operand} {p : Nat} {assign body : Code} {Q : Exit → Act → World → Prop} {a : Act} {w : World} (hN : a.tmps.size = N) {gf : Nat} {fs lb : Array Value} (hg : ev (envOf a) g = .func (.func gf) fs lb)
    (h : rngD P gf fs lb (fun v kn kr W => match evalA N assign (put N (envOf a) (some p) v) with | some ρ1 => denY P H N body (fun e _ W' => match e with | .normal => kn W' | .ret => kr W' | _ => False) ρ1 W | none => False)
      (fun W => Q .normal { a with defers := { target := .collected w.heap.size, args := #[] } :: a.defers } W) (fun W => Q .ret { a with defers := { target := .collected w.heap.size, args := #[] } :: a.defers } W) w) :
    (Code.rangeFunc g #[p] assign body).wpIn (FW none) 0 P Q a w := by
  obtain ⟨eg, M, x, RD, I, X, hit, hRD, hI, hX, h0, hbody, hdone, hret⟩ := h
  refine wpIn_rangeFunc ?_
  intro fn hfn
  rw [show (FW none).round = none from rfl]
  obtain ⟨rec, hrec⟩ : ∃ rec : LoopState → Option Code → Loop, rec = fun st pe => { state := st, pending := pe, fn, tmps := a.tmps, params := #[p], assign, body, defers := w.heap.size } := ⟨_, rfl⟩
  obtain ⟨W1, hW1⟩ : ∃ W1, (w.alloc (.deferred (some []))).alloc (.loop (rec .ready none)) = W1 := ⟨_, rfl⟩
  have hL1 : W1.heap[w.heap.size + 1]? = some (.loop (rec .ready none)) := by
    rw [← hW1]; have := World.alloc_heap_new (w.alloc (.deferred (some []))) (.loop (rec .ready none)); rwa [World.size_alloc] at this
  have hK1 : W1.heap[w.heap.size]? = some (.deferred (some [])) := by
    rw [← hW1]; exact (Go.RowKit.Below.heap_alloc _ _ _ (by simp)).trans (World.alloc_heap_new w _)
  have hI1 : I 0 W1 := by rw [← hW1]; exact (hI 0).alloc _ ((hI 0).alloc _ h0)
  refine ⟨w.heap.size + 1, [{ target := .collected w.heap.size, args := #[] }], W1, { target := .fn (.func gf) lb, args := fs ++ #[.func (.yield (w.heap.size + 1)) #[] #[]] }, W1, gf,
    fs ++ #[.func (.yield (w.heap.size + 1)) #[] #[]] ++ lb, W1, ?_, ?_, ?_, ?_, fun h => (by cases h), ?_⟩
  · rw [← hW1, hrec]; exact run_enterLoop_outer _ _ _ _ _
  · rw [eval_env]
    simp only [resolve, rangeCall, hg, Deferred.ofValue, Sem.run_pure]
    simp [ev]
  · intro f' _; trivial
  · simp only [invoke]; exact eg _ _
  · refine callsIn_FW ((hit (w.heap.size + 1)
      (fun i W => I i W ∧ W.heap[w.heap.size + 1]? = some (.loop (rec .ready none)) ∧ W.heap[w.heap.size]? = some (.deferred (some [])))
      (fun W => X W ∧ W.heap[w.heap.size + 1]? = some (.loop (rec .done (some .ret))) ∧ W.heap[w.heap.size]? = some (.deferred (some [])))
      W1 (fun i W h => hRD i W h.1) ?_ ⟨hI1, hL1, hK1⟩).mono ?_)
    · rintro i W hi ⟨hiW, hl, hk⟩
      have hlt : w.heap.size + 1 < W.heap.size := (Array.getElem?_eq_some_iff.1 hl).1
      have hy := run_yield (P := P) (args := #[pv (x i).1 (x i).2]) hl (by rw [hrec]; rfl)
      rw [hrec] at hy
      refine ⟨fn, _, assign, body, hy, ?_⟩
      have hl2 : (W.putObj (w.heap.size + 1) (.loop { rec .ready none with state := .busy })).heap[w.heap.size + 1]? = some (.loop { rec .ready none with state := .busy }) := World.putObj_heap_same hlt
      have hk2 : (W.putObj (w.heap.size + 1) (.loop { rec .ready none with state := .busy })).heap[w.heap.size]? = some (.deferred (some [])) := (World.putObj_heap_other (by omega)).trans hk
      have hb := hbody i (W.putObj (w.heap.size + 1) (.loop { rec .ready none with state := .busy })) { rec .ready none with state := .busy } hi ((hI i).putObj _ hiW (by omega) hl rfl) ⟨hk2, hl2⟩
      dsimp only at hb
      split at hb
      · rename_i ρ1 hρ
        refine roundIn_of_wpIn (F := FW none) hfn ?_
        have hact : ((#[p].zip #[pv (x i).1 (x i).2]).foldl (fun t (p, v) => t.setIfInBounds p v) a.tmps) = (a.put (some p) (pv (x i).1 (x i).2)).tmps := by
          simp [Act.put]
        have hN1 : ({ tmps := (#[p].zip #[pv (x i).1 (x i).2]).foldl (fun t (p, v) => t.setIfInBounds p v) a.tmps, defers := [] } : Act).tmps.size = N := by rw [hact]; exact size_put hN _ _
        have henv : envOf { tmps := (#[p].zip #[pv (x i).1 (x i).2]).foldl (fun t (p, v) => t.setIfInBounds p v) a.tmps, defers := [] } = put N (envOf a) (some p) (pv (x i).1 (x i).2) := by
          rw [← env_put hN]; unfold envOf; rw [hact]
        have ha := denY_sound (r := some (w.heap.size + 1)) (H := H) hm assign hN1 (by rw [henv]; exact evalA_den hρ W)
        refine wpIn_mono ha fun e a1 W1' hq => ?_
        obtain ⟨_, hka, rfl, hρ1, rfl⟩ := hq
        refine ⟨_, run_beginRound hl (by rw [hrec]), ?_⟩
        rw [← hρ1] at hb
        have hbs := denY_sound (r := some (w.heap.size + 1)) (H := H) hm body hka.size hb
        refine wpIn_mono hbs fun e a3 W3 hq => ?_
        obtain ⟨hok, _, hq⟩ := hq
        have fin : ∀ (jump : Option Code), keepsD w W3 { rec .ready none with state := .busy } →
            (Instr.endRound (w.heap.size + 1) jump).run P W3 = .ok (.bool jump.isNone) (W3.putObj (w.heap.size + 1) (.loop (rec (if jump.isNone then .ready else .done) jump))) ∧
            W3.heap[w.heap.size + 1]? = some (.loop { rec .ready none with state := .busy }) ∧
            (W3.putObj (w.heap.size + 1) (.loop (rec (if jump.isNone then .ready else .done) jump))).heap[w.heap.size + 1]? = some (.loop (rec (if jump.isNone then .ready else .done) jump)) ∧
            (W3.putObj (w.heap.size + 1) (.loop (rec (if jump.isNone then .ready else .done) jump))).heap[w.heap.size]? = some (.deferred (some [])) := fun jump hk3 => by
          obtain ⟨hkd, hl3⟩ := hk3
          have := run_endRound (P := P) jump hl3
          rw [hrec] at this ⊢
          exact ⟨this, by rw [hrec] at hl3; exact hl3, World.putObj_heap_same (Array.getElem?_eq_some_iff.1 hl3).1, (World.putObj_heap_other (by omega)).trans hkd⟩
        cases e with
        | normal =>
          obtain ⟨hi3, hk3⟩ := hq
          obtain ⟨hr, hl3, hl4, hk4⟩ := fin none hk3
          exact ⟨_, _, hr, .inl ⟨rfl, (hI (i + 1)).putObj _ hi3 (by omega) hl3 rfl, hl4, hk4⟩⟩
        | ret =>
          obtain ⟨hi3, hk3⟩ := hq
          obtain ⟨hr, hl3, hl4, hk4⟩ := fin (some .ret) hk3
          exact ⟨_, _, hr, .inr ⟨rfl, hX.putObj _ hi3 (by omega) hl3 rfl, hl4, hk4⟩⟩
        | exit id => exact hq.elim
        | goto t => exact hok.elim
        | panic ch => exact hok.elim
        | outgrown => exact hok.elim
      · exact hb.elim
    · rintro e W2 ⟨⟨v, rfl⟩, (⟨hi, hl, hk⟩ | ⟨hi, hl, hk⟩)⟩
      · exact ⟨none, _, by have := run_endLoop (P := P) hl (by rw [hrec]; simp); rw [hrec] at this; exact this, hdone _ ((hI M).putObj _ hi (by omega) hl rfl) ((World.putObj_heap_other (by omega)).trans hk)⟩
      · refine ⟨some .ret, _, by have := run_endLoop (P := P) hl (by rw [hrec]; simp); rw [hrec] at this; exact this, ?_⟩
        exact wpIn_ret (hret _ (hX.putObj _ hi (by omega) hl rfl) ((World.putObj_heap_other (by omega)).trans hk))

def markD (ms : List Nat) : List Deferred := ms.map fun D => { target := .collected D, args := #[] }

/-- A function that holds a range over a function: 'ms' are the blocks that its loops leave behind. -/
def denR (P : Program) (H : Hints) (N : Nat) : Code → (Exit → List Nat → Env → World → Prop) → List Nat → Env → World → Prop
  | .seq x y, Q, ms, ρ, w => denR P H N x (fun e ms ρ w => match e with | .normal => denR P H N y Q ms ρ w | e => Q e ms ρ w) ms ρ w
  | .cond c x y, Q, ms, ρ, w => match ev ρ c with
    | .bool b => match b with
      | true => denR P H N x Q ms ρ w
      | false => denR P H N y Q ms ρ w
    | _ => False
  | .block id c, Q, ms, ρ, w => denR P H N c (fun e ms ρ w => match e with | .exit i => bif Nat.beq i id then Q .normal ms ρ w else Q (.exit i) ms ρ w | e => Q e ms ρ w) ms ρ w
  | .rangeFunc g ps assign body, Q, ms, ρ, w => match ev ρ g, ps.toList with
    | .func (.func gf) fs lb, [p] => rngD P gf fs lb (fun v kn kr W => match evalA N assign (put N ρ (some p) v) with | some ρ1 => denY P H N body (fun e _ W' => match e with | .normal => kn W' | .ret => kr W' | _ => False) ρ1 W | none => False)
        (fun W => Q .normal (w.heap.size :: ms) ρ W) (fun W => Q .ret (w.heap.size :: ms) ρ W) w
    | _, _ => False
  | c, Q, ms, ρ, w => denY P H N c (fun e ρ w => Q e ms ρ w) ρ w

/-- What is owed behind a statement of such a function. -/
def owedR (N : Nat) (Q : Exit → List Nat → Env → World → Prop) : Exit → Act → World → Prop :=
  fun e a' w' => ∃ ms, okE e ∧ a'.tmps.size = N ∧ a'.defers = markD ms ∧ Q e ms (envOf a') w'

theorem denR_sound {H : Hints} {N : Nat} (hm : P.follows .mixedOrders = true) : ∀ (c : Code) {Q : Exit → List Nat → Env → World → Prop} {ms : List Nat} {a : Act} {w : World}, a.tmps.size = N → a.defers = markD ms →
    denR P H N c Q ms (envOf a) w → c.wpIn (FW none) 0 P (owedR N Q) a w := by
  have base : ∀ (c : Code) {Q : Exit → List Nat → Env → World → Prop} {ms : List Nat} {a : Act} {w : World}, a.tmps.size = N → a.defers = markD ms →
      denY P H N c (fun e ρ w => Q e ms ρ w) (envOf a) w → c.wpIn (FW none) 0 P (owedR N Q) a w := fun c Q ms a w hN hd h =>
    wpIn_mono (denY_sound (r := none) hm c hN h) fun e a' w' hq => ⟨ms, hq.1, hq.2.1.size, hq.2.1.defers.trans hd, hq.2.2⟩
  intro c
  induction c with
  | seq x y ihx ihy =>
    intro Q ms a w hN hd h
    unfold denR at h
    refine wpIn_seq (wpIn_mono (ihx hN hd h) fun e a' w' hq => ?_)
    obtain ⟨ms', hok, hN', hd', hq⟩ := hq
    cases e with
    | normal => exact ihy hN' hd' hq
    | exit id => exact ⟨ms', hok, hN', hd', hq⟩
    | ret => exact ⟨ms', hok, hN', hd', hq⟩
    | goto l => exact hok.elim
    | panic ch => exact hok.elim
    | outgrown => exact hok.elim
  | cond c x y ihx ihy =>
    intro Q ms a w hN hd h
    unfold denR at h
    rw [← eval_env] at h
    split at h
    · rename_i b hb
      cases b with
      | true => exact wpIn_cond_true hb (ihx hN hd h)
      | false => exact wpIn_cond_false hb (ihy hN hd h)
    · exact h.elim
  | block id c ih =>
    intro Q ms a w hN hd h
    unfold denR at h
    refine wpIn_block (wpIn_mono (ih hN hd h) fun e a' w' hq => ?_)
    obtain ⟨ms', hok, hN', hd', hq⟩ := hq
    cases e with
    | normal => exact ⟨ms', hok, hN', hd', hq⟩
    | exit i =>
      simp only [Exit.inBlock]
      dsimp only at hq
      by_cases hi : i = id
      · subst hi
        rw [show Nat.beq i i = true from Nat.beq_refl i] at hq
        rw [if_pos rfl]
        exact ⟨ms', trivial, hN', hd', hq⟩
      · have : Nat.beq i id = false := by
          cases hb : Nat.beq i id with
          | false => rfl
          | true => exact absurd (Nat.eq_of_beq_eq_true hb) hi
        rw [this] at hq
        rw [if_neg hi]
        exact ⟨ms', trivial, hN', hd', hq⟩
    | ret => exact ⟨ms', hok, hN', hd', hq⟩
    | goto l => exact hok.elim
    | panic ch => exact hok.elim
    | outgrown => exact hok.elim
  | rangeFunc g ps assign body =>
    intro Q ms a w hN hd h
    unfold denR at h
    split at h
    · rename_i gf fs lb p hg hps
      obtain rfl : ps = #[p] := by cases ps; simp at hps; simp [hps]
      refine rng_rule (H := H) hm hN hg ?_
      obtain ⟨h1, M, x, RD, I, X, h2, h3, h4, h5, h6, h7, h8, h9⟩ := h
      exact ⟨h1, M, x, RD, I, X, h2, h3, h4, h5, h6, h7, fun W hI hW => ⟨w.heap.size :: ms, trivial, hN, by simp [markD, hd], h8 W hI hW⟩, fun W hI hW => ⟨w.heap.size :: ms, trivial, hN, by simp [markD, hd], h9 W hI hW⟩⟩
    · exact h.elim
  | _ => intro Q ms a w hN hd h; exact base _ hN hd h

def leaveD : List Nat → World → (World → Prop) → Prop
  | [], w, K => K w
  | D :: ms, w, K => w.heap[D]? = some (.deferred (some [])) ∧ leaveD ms (w.putObj D (.deferred none)) K

theorem leaves_of {fn : Func} {tmps : Array Value} {R : Ending → World → Prop} : ∀ (ms : List Nat) {w : World}, leaveD ms w (fun w' => ∃ v, (results fn tmps).run P w' = .ok v w' ∧ R (.returned v) w') → LeavesInM (FW none) 0 P fn tmps R (markD ms) .returning w
  | [], w, h => h
  | D :: ms, w, h => ⟨by simp, .inl ⟨D, _, rfl, run_takeDeferred h.1, leaves_of ms h.2⟩⟩

theorem leaveD_mono {K K' : World → Prop} (hk : ∀ w, K w → K' w) : ∀ (ms : List Nat) {w : World}, leaveD ms w K → leaveD ms w K'
  | [], _, h => hk _ h
  | _ :: ms, _, h => ⟨h.1, leaveD_mono hk ms h.2⟩

def fnDR (P : Program) (H : Hints) (fn : Func) (args : List Value) (R : Value → World → Prop) (w : World) : Prop :=
  match fn.body with
  | some c => denR P H fn.ntmps c (fun e ms ρ w => match e with
      | .normal => leaveD ms w fun w' => resD P H ρ w' fn.results.toList fun vs => R (tup vs) w'
      | .ret => leaveD ms w fun w' => resD P H ρ w' fn.results.toList fun vs => R (tup vs) w'
      | _ => False) [] (env0 args) w
  | none => False

theorem fnR_sound {H : Hints} {f : Nat} {fn : Func} {args : List Value} {R : Value → World → Prop} {w : World} (hm : P.follows .mixedOrders = true) (hf : P.funcs[f]? = some fn)
    (hn : Nat.ble args.length fn.ntmps = true) (h : fnDR P H fn args R w) : Calls P f args.toArray w fun e w' => ∃ v, e = .returned v ∧ R v w' := by
  unfold fnDR at h
  split at h
  · rename_i c hb
    have hle := Nat.le_of_ble_eq_true hn
    refine (callsIn_wide (n := 0)).1 (callsIn_of_wp_marks hf hb trivial ?_ rfl)
    have hN : ({ tmps := args.toArray ++ Array.replicate (fn.ntmps - args.toArray.size) undef, defers := [] } : Act).tmps.size = fn.ntmps := by simp; omega
    refine wpIn_mono (denR_sound (H := H) hm c (ms := []) hN rfl (by rw [env0_of hle]; exact h)) fun e a' w' hq => ?_
    obtain ⟨ms, hok, hN', hd, hq⟩ := hq
    have hres : leaveD ms w' (fun w' => resD P H (envOf a') w' fn.results.toList fun vs => R (tup vs) w') → LeavesInM (FW none) 0 P fn a'.tmps (fun e w' => ∃ v, e = .returned v ∧ R v w') a'.defers .returning w' := fun hq => by
      rw [hd]
      refine leaves_of ms (leaveD_mono (fun w2 h2 => ?_) ms hq)
      obtain ⟨v, h3, h4⟩ := results_of h2
      exact ⟨v, h3, v, rfl, h4⟩
    cases e with
    | normal => exact hres hq
    | ret => exact hres hq
    | exit id => exact hq.elim
    | goto l => exact hok.elim
    | panic ch => exact hok.elim
    | outgrown => exact hok.elim
  · exact h.elim

end
end Go.X
