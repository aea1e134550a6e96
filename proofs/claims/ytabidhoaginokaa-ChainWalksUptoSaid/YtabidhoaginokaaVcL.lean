/-
  'dn' IS SOUND; a function's contract out of its formula.
-/
import Derived.Test.YtabidhoaginokaaVcK
import Derived.RangeFuncNested
namespace Go.Proofs.Ytabidhoaginokaa.Vc
open Go
set_option linter.unusedVariables false
set_option linter.unusedSimpArgs false

def noDeferC : Code → Bool
  | .region _ ops _ => ops.toList.all noDefer
  | .seq x y => noDeferC x && noDeferC y
  | .cond _ x y => noDeferC x && noDeferC y
  | .block _ c | .loop c | .scope c => noDeferC c
  | .rangeFunc _ _ x y => noDeferC x && noDeferC y
  | _ => true

/-- What is reached, by the way out. -/
def ReachC (w : World) (K : Exit → Fr → List Deferred → Heap → Prop) (e : Exit) (a' : Act) (w' : World) : Prop := ∃ fr, Fits fr a'.tmps ∧ K e fr a'.defers w'.heap ∧ Outer w w'
theorem ReachC.trans {w w1 : World} {K : Exit → Fr → List Deferred → Heap → Prop} {e : Exit} {a' : Act} {w' : World} (h : ReachC w1 K e a' w') (o : Outer w w1) : ReachC w K e a' w' :=
  let ⟨fr, h1, h2, h3⟩ := h; ⟨fr, h1, h2, o.trans h3⟩

theorem run_enters {P : Program} {f : FuncId} (h : entersB P f = true) (args : Array Value) (w : World) : (callFunc f args).run P w = .ok (.enter f args) w := by
  unfold entersB at h
  split at h
  · rename_i fn hf
    simp only [Bool.and_eq_true, Bool.not_eq_true'] at h
    obtain ⟨c, hc⟩ := Option.isSome_iff_exists.1 h.1
    simp [callFunc, program, Sem.run_bind, Sem.run, Result.andThen, hf, hc]
    exact by simpa using h.2
  · cases h
theorem CallH.enters {P : Program} {f : FuncId} (h : entersB P f = true) {args : Array Value} {w : World} {Q : Value → Heap → Prop} (x : CallH P f args w.heap Q) :
    CallsIn Wd 0 P f args w fun e w' => ∃ v, e = .returned v ∧ Q v w'.heap ∧ Outer w w' := by
  rcases x w rfl with ⟨v, w', h1, h2, h3⟩ | ⟨h1, h2⟩
  · rw [run_enters h] at h1; cases h1
  · exact h2

/-- What comes behind a range over a function. -/
theorem end_sound {P : Program} {F : Fence} {l : Nat} {fr : Fr} {ds : List Deferred} {K : Exit → Fr → List Deferred → Heap → Prop} {Q : Exit → Act → World → Prop} {a : Act} {w w3 : World} {v : Value}
    (hf : Fits fr a.tmps) (hd : a.defers = ds) (ho : Outer w w3) (x : endK l fr ds K w3.heap) (hq : ∀ e a' w', ReachC w K e a' w' → Q e a' w') : rangePost F 0 P l Q a (.returned v) w3 := by
  obtain ⟨r, h1, h2, h3⟩ := x
  refine ⟨r.pending, _, run_endLoop h1 h2, ?_⟩
  have o' : ∀ o, Outer w (w3.putObj l o) := fun _ => ⟨ho.tape, ho.os, ho.output⟩
  subst hd
  cases hp : r.pending with
  | none =>
    simp only [hp] at h3 ⊢
    exact hq _ _ _ ⟨fr, hf, h3, o' _⟩
  | some c =>
    simp only [hp] at h3 ⊢
    cases c with
    | ret => exact wpIn_ret (hq _ _ _ ⟨fr, hf, h3, o' _⟩)
    | exit i => exact wpIn_exit (hq _ _ _ ⟨fr, hf, h3, o' _⟩)
    | goto i => exact wpIn_goto (hq _ _ _ ⟨fr, hf, h3, o' _⟩)
    | _ => exact h3.elim

theorem dn_sound {P : Program} {F : Fence} (hF : PlainF F) {M : Nat → Nat} {R : Option Nat} (hR : F.round = R) : ∀ (c : Code) (fr : Fr) (a : Act) (w : World) (K : Exit → Fr → List Deferred → Heap → Prop) (Q : Exit → Act → World → Prop),
    (F.round = none ∨ noDeferC c = true) → Fits fr a.tmps → dn P M R c fr a.defers w.heap K → (∀ e a' w', ReachC w K e a' w' → Q e a' w') → c.wpIn F 0 P Q a w := by
  intro c
  induction c with
  | skip => intro fr a w K Q hd hf x hq; exact wpIn_skip (hq _ _ _ ⟨fr, hf, x, .refl w⟩)
  | label l => intro fr a w K Q hd hf x hq; exact wpIn_label (hq _ _ _ ⟨fr, hf, x, .refl w⟩)
  | exit id => intro fr a w K Q hd hf x hq; exact wpIn_exit (hq _ _ _ ⟨fr, hf, x, .refl w⟩)
  | goto l => intro fr a w K Q hd hf x hq; exact wpIn_goto (hq _ _ _ ⟨fr, hf, x, .refl w⟩)
  | ret => intro fr a w K Q hd hf x hq; exact wpIn_ret (hq _ _ _ ⟨fr, hf, x, .refl w⟩)
  | seq c1 c2 ih1 ih2 =>
    intro fr a w K Q hd hf x hq
    have hd' : (F.round = none ∨ noDeferC c1 = true) ∧ (F.round = none ∨ noDeferC c2 = true) := by
      rcases hd with h | h
      · exact ⟨.inl h, .inl h⟩
      · simp only [noDeferC, Bool.and_eq_true] at h; exact ⟨.inr h.1, .inr h.2⟩
    refine wpIn_seq (ih1 fr a w (seqK (dn P M R c2) K) _ hd'.1 hf x ?_)
    rintro e a' w' ⟨fr', h1, h2, h3⟩
    cases e <;> first
      | exact hq _ _ _ ⟨fr', h1, h2, h3⟩
      | exact ih2 fr' a' w' K Q hd'.2 h1 h2 fun e a'' w'' r => hq _ _ _ (r.trans h3)
  | cond o c1 c2 ih1 ih2 =>
    intro fr a w K Q hd hf x hq
    have hd' : (F.round = none ∨ noDeferC c1 = true) ∧ (F.round = none ∨ noDeferC c2 = true) := by
      rcases hd with h | h
      · exact ⟨.inl h, .inl h⟩
      · simp only [noDeferC, Bool.and_eq_true] at h; exact ⟨.inr h.1, .inr h.2⟩
    simp only [dn] at x
    split at x
    · rename_i b hb
      have he := hf.eval hb
      have hf' : Fits (clearF fr o) a.tmps := by
        unfold clearF; split
        · exact hf.forget _
        · exact hf
      rcases x.out with ⟨hb', y⟩ | ⟨hb', y⟩
      · exact wpIn_cond_true (by rw [he, hb']) (ih1 _ a w K Q hd'.1 hf' y hq)
      · exact wpIn_cond_false (by rw [he, hb']) (ih2 _ a w K Q hd'.2 hf' y hq)
    · exact x.elim
  | block id c ih =>
    intro fr a w K Q hd hf x hq
    refine wpIn_block (ih fr a w (blockK id K) _ hd hf x ?_)
    rintro e a' w' ⟨fr', h1, h2, h3⟩
    cases e with
    | exit i =>
      simp only [Exit.inBlock]
      simp only [blockK] at h2
      by_cases e : i = id
      · subst e
        simp only [beq_self_eq_true] at h2
        rw [if_pos rfl]; exact hq _ _ _ ⟨fr', h1, h2, h3⟩
      · have : (i == id) = false := by simpa using e
        simp only [this] at h2
        rw [if_neg e]; exact hq _ _ _ ⟨fr', h1, h2, h3⟩
    | _ => exact hq _ _ _ ⟨fr', h1, h2, h3⟩
  | loop c ih =>
    intro fr a w K Q hd hf x hq
    obtain ⟨n, x⟩ := x
    refine wpIn_loop_rounds n ?_
    have key : ∀ n fr a w1, Outer w w1 → Fits fr a.tmps → LoopN (dn P M R c) n fr a.defers w1.heap K → Code.roundsIn F 0 P c Q n a w1 := by
      intro n
      induction n with
      | zero => intro fr a w1 ho hf x; exact x.elim
      | succ n ihn =>
        intro fr a w1 ho hf x
        rw [roundsIn_succ]
        refine ih fr a w1 _ _ hd hf x ?_
        rintro e a' w' ⟨fr', h1, h2, h3⟩
        cases e <;> first
          | exact hq _ _ _ ⟨fr', h1, h2, ho.trans h3⟩
          | exact ihn fr' a' w' (ho.trans h3) h1 h2
    exact key n fr a w (.refl w) hf x
  | region id ops draw =>
    intro fr a w K Q hd hf x hq
    have hd' : F.round = none ∨ ∀ o ∈ ops.toList, noDefer o = true := hd.imp (fun h => h) fun h => List.all_eq_true.1 h
    have fin : ∀ a' w', Reach w (fun fr ds h => K .normal (maskF (M id) fr) ds h) a' w' → Q .normal a' w' := by
      rintro a' w' ⟨fr', h1, h2, h3⟩
      exact hq _ _ _ ⟨_, h1.mask _, h2, h3⟩
    simp only [dn] at x
    cases draw with
    | false =>
      refine wpIn_region ?_
      have := opsT_sound hF hd' w ops.toList 0 fr a w (by simp) hf x (.refl w) fin
      rw [List.range_eq_range']
      simpa using this
    | true =>
      obtain ⟨hok, x⟩ := x.out
      refine wpIn_region_draw fun t => ?_
      exact draw_sound (w := { w with drawn := w.drawn + 1 }) (w0 := w) hF hd' hok hf x ⟨rfl, rfl, rfl⟩ fin t
  | rangeFunc g ps c1 c2 ih1 ih2 =>
    intro fr a w K Q hd hf x hq
    simp only [dn] at x
    split at x
    · rename_i v hv
      have hev := hf.eval hv
      unfold rangeG at x
      split at x
      · rename_i f first cap
        obtain ⟨hen, x⟩ := x.out
        have he1 : ∀ (l : Nat) (w1 : World), (resolve a.eval (rangeCall g l) 0).run P w1 = .ok { target := .fn (.func f) cap, args := first ++ #[.func (.yield l) #[] #[]] } w1 := by
          intro l w1
          have : (resolve a.eval (rangeCall g l) 0) = Deferred.ofValue (a.eval g) ((rangeCall g l).args.map a.eval) := rfl
          rw [this, hev]
          have e2 : (rangeCall g l).args.map a.eval = #[.func (.yield l) #[] #[]] := by simp [rangeCall, Act.eval]
          rw [e2]; rfl
        have he2 : ∀ (l : Nat) (w1 : World), (invoke (.fn (.func f) cap) (first ++ #[.func (.yield l) #[] #[]])).run P w1 = .ok (.enter f (first ++ #[.func (.yield l) #[] #[]] ++ cap)) w1 :=
          fun l w1 => run_enters hen _ w1
        have he3 : ∀ (l : Nat), (first.toList ++ [Value.func (.yield l) #[] #[]] ++ cap.toList).toArray = first ++ #[.func (.yield l) #[] #[]] ++ cap := by
          intro l; apply Array.ext'; simp
        refine wpIn_rangeFunc fun fn hfn => ?_
        subst hR
        cases hr : F.round with
        | none =>
          rw [hr] at x
          simp only at x
          refine ⟨_, _, _, _, _, f, _, _, run_enterLoop_outer fn a.tmps ps c1 c2, he1 _ _, fun f' _ => hF.fn f', he2 _ _, hF.dep, ?_⟩
          have y := x { state := .ready, pending := none, fn, tmps := a.tmps, params := ps, assign := c1, body := c2, defers := w.heap.size } ⟨rfl, rfl, hf, rfl, rfl, rfl, rfl⟩
          rw [he3] at y
          refine hF.calls (callsIn_mono (CallH.enters (w := (w.alloc (.deferred (some []))).alloc (.loop { state := .ready, pending := none, fn, tmps := a.tmps, params := ps, assign := c1, body := c2, defers := w.heap.size })) hen y) ?_)
          rintro e w' ⟨u, rfl, k, o⟩
          exact end_sound (w := w) (fr := fr) (ds := { target := .collected w.heap.size, args := #[] } :: a.defers) hf rfl ⟨o.tape, o.os, o.output⟩ k hq
        | some l₀ =>
          rw [hr] at x
          simp only at x
          obtain ⟨r₀, hr0, x⟩ := x
          refine ⟨_, _, _, _, _, f, _, _, run_enterLoop_inner hr0 fn a.tmps ps c1 c2, he1 _ _, fun f' _ => hF.fn f', he2 _ _, hF.dep, ?_⟩
          have y := x { state := .ready, pending := none, fn, tmps := a.tmps, params := ps, assign := c1, body := c2, defers := r₀.defers } ⟨rfl, rfl, hf, rfl, rfl, rfl, rfl⟩
          rw [he3] at y
          refine hF.calls (callsIn_mono (CallH.enters (w := w.alloc (.loop { state := .ready, pending := none, fn, tmps := a.tmps, params := ps, assign := c1, body := c2, defers := r₀.defers })) hen y) ?_)
          rintro e w' ⟨u, rfl, k, o⟩
          exact end_sound (w := w) (fr := fr) (ds := a.defers) hf rfl ⟨o.tape, o.os, o.output⟩ k hq
      · exact x.elim
    · exact x.elim
  | scope => intro fr a w K Q hd hf x hq; exact x.elim
  | refuse => intro fr a w K Q hd hf x hq; exact x.elim

theorem initF_fits : ∀ (n : Nat) (args : List Value), args.length ≤ n → initF n args = args.map some ++ List.replicate (n - args.length) (some undef)
  | n, [], h => by simp [initF]
  | 0, v :: r, h => by simp at h
  | n + 1, v :: r, h => by
    simp only [List.length_cons, Nat.add_le_add_iff_right] at h
    simp only [initF, initF_fits n r h, List.map_cons, List.cons_append, List.length_cons]
    congr 3; omega
theorem fits_all {l : List Value} {t : Array Value} (h : t.toList = l) : Fits (l.map some) t := by
  subst h
  refine ⟨by simp, fun i v hv => ?_⟩
  rw [nth_eq] at hv
  simp only [List.getElem?_map, Option.map_eq_some_iff] at hv
  obtain ⟨u, hu, e⟩ := hv
  cases e
  simpa using hu

def Still {α : Type} (P : Program) (s : Sem α) : Prop := ∀ w a w', s.run P w = .ok a w' → w' = w
theorem Still.bind {α β : Type} {P : Program} {s : Sem α} {f : α → Sem β} (h : Still P s) (hf : ∀ a, Still P (f a)) : Still P (s >>= f) := by
  intro w a w' hr
  rw [Sem.run_bind] at hr
  cases hs : s.run P w with
  | halt e w1 => rw [hs] at hr; cases hr
  | ok b w1 =>
    rw [hs] at hr
    have := h _ _ _ hs
    subst this
    exact hf _ _ _ _ hr
theorem still_pure {α : Type} {P : Program} (a : α) : Still P (pure a : Sem α) := by
  intro w b w' h; rw [Sem.run_pure] at h; cases h; rfl
theorem still_load {P : Program} (a : Addr) : Still P (load a) := by
  intro w b w' h
  simp only [load, Sem.run] at h
  split at h
  · cases h; rfl
  · split at h <;> cases h
    rfl
theorem still_loadCells {P : Program} (a : Addr) : ∀ (n i : Nat) (acc : Array Value), Still P (loadCellsFrom a i n acc)
  | 0, i, acc => still_pure _
  | n + 1, i, acc => (still_load _).bind fun v => still_loadCells a n (i + 1) _
theorem still_program {P : Program} : Still P program := by
  intro w b w' h; simp only [program, Sem.run] at h; cases h; rfl
theorem still_halt {α : Type} {P : Program} (h : Halt) : Still P (Sem.halt h : Sem α) := by
  intro w b w' hr; cases hr
theorem loadVar_still {P : Program} {t : TypeId} {q : Addr} {u : Value} {w w' : World} (h : (loadVar t q).run P w = .ok u w') : w' = w := by
  have hu : ∀ t, Still P (underlying t) := fun t => by
    unfold underlying
    refine still_program.bind fun p => ?_
    split <;> first | exact still_pure _ | exact still_halt _
  have ha : Still P (isAgg t) := by
    unfold isAgg
    refine (hu t).bind fun d => ?_
    split <;> exact still_pure _
  have hs : Still P (sizeOf t) := by
    unfold sizeOf typeInfo
    refine Still.bind ?_ fun i => still_pure _
    refine still_program.bind fun p => ?_
    split <;> first | exact still_pure _ | exact still_halt _
  have : Still P (loadVar t q) := by
    unfold loadVar
    refine ha.bind fun b => ?_
    split
    · exact (hs.bind fun n => (still_loadCells q n 0 #[]).bind fun c => still_pure _)
    · exact still_load q
  exact this _ _ _ h
theorem results_run {P : Program} {tmps : Array Value} {g : ResultVar → Sem Value} (g1 : ∀ t, g (.tmp t) = pure (tmps.getD t undef)) (g2 : ∀ a t, g (.cell a t) = (do loadVar t (← asAddr (tmps.getD a undef)))) : ∀ (l : List ResultVar) (fr : Fr) (acc : List Value) (w : World) (K : List Value → Heap → Prop), Fits fr tmps → resultsH P l fr acc w.heap K →
    ∃ vs, (l.mapM g).run P w = .ok vs w ∧ K (acc.reverse ++ vs) w.heap
  | [], fr, acc, w, K, hf, x => ⟨[], rfl, by simpa [resultsH] using x⟩
  | .tmp t :: r, fr, acc, w, K, hf, x => by
    simp only [resultsH] at x
    split at x
    · rename_i v hv
      obtain ⟨vs, h1, h2⟩ := results_run g1 g2 r fr (v :: acc) w K hf x
      have hg : tmps.getD t undef = v := by
        have := hf.2 t _ (nthF_some hv)
        simp [Array.getD_eq_getD_getElem?, this]
      refine ⟨v :: vs, ?_, by simpa using h2⟩
      simp only [List.mapM_cons, Sem.run_bind, g1, hg, Sem.run_pure, Result.andThen, h1]
    · exact x.elim
  | .cell a t :: r, fr, acc, w, K, hf, x => by
    simp only [resultsH] at x
    split at x
    · rename_i v hv
      have hg : tmps.getD a undef = v := by
        have := hf.2 a _ (nthF_some hv)
        simp [Array.getD_eq_getD_getElem?, this]
      have e0 : rhoF fr (.tmp a) = v := by simp [rhoF, getF, hv]
      obtain ⟨q, rfl⟩ : ∃ q, v = .pointer (some q) := by
        simp only [opH, e0] at x
        cases v with
        | pointer p => cases p with
          | none => exact x.elim
          | some q => exact ⟨q, rfl⟩
        | _ => exact x.elim
      have y := opH_sem x (by intro c h; cases h)
      obtain ⟨n, w', h1, h2, h3⟩ := semH_run P _ w y
      have hl : (execOp (rhoF fr) { dst := none, op := .load t (.tmp a), type := t, pos := "", after := #[], guard := none }) = (do let u ← loadVar t q; pure (Next.value u) : Sem Next) := by
        show (do let u ← Instr.loadAt t (rhoF fr (.tmp a)); pure (Next.value u) : Sem Next) = _
        rw [e0]; rfl
      rw [hl, Sem.run_bind] at h1
      cases hres : (loadVar t q).run P w with
      | halt e w1 => rw [hres] at h1; cases h1
      | ok u w1 =>
        rw [hres] at h1
        have : n = Next.value u ∧ w' = w1 := by
          simp only [Result.andThen, Sem.run_pure, Result.ok.injEq] at h1
          exact ⟨h1.1.symm, h1.2.symm⟩
        obtain ⟨rfl, rfl⟩ := this
        have hw := loadVar_still hres
        subst hw
        obtain ⟨us, k1, k2⟩ := results_run g1 g2 r fr (u :: acc) w' K hf h2
        refine ⟨u :: us, ?_, by simpa using k2⟩
        have e1 : (do loadVar t (← asAddr (tmps.getD a undef)) : Sem Value).run P w' = .ok u w' := by rw [hg]; exact hres
        rw [List.mapM_cons, Sem.run_bind, g2, e1]
        simp only [Result.andThen, Sem.run_bind, k1, Sem.run_pure]
    · exact x.elim

theorem results_sound {P : Program} {fn : Func} {tmps : Array Value} {fr : Fr} {w : World} {K : List Value → Heap → Prop} (hf : Fits fr tmps) (x : resultsH P fn.results.toList fr [] w.heap K) :
    ∃ vs, (results fn tmps).run P w = .ok (resultV vs) w ∧ K vs w.heap := by
  have key : ∀ g : ResultVar → Sem Value, (∀ t, g (.tmp t) = pure (tmps.getD t undef)) → (∀ a t, g (.cell a t) = (do loadVar t (← asAddr (tmps.getD a undef)))) →
      ∃ vs, ((do let vs ← fn.results.mapM g; pure (if h : vs.size = 1 then vs[0] else .tuple vs)) : Sem Value).run P w = .ok (resultV vs) w ∧ K vs w.heap := by
    intro g g1 g2
    obtain ⟨vs, h1, h2⟩ := results_run g1 g2 fn.results.toList fr [] w K hf x
    refine ⟨vs, ?_, by simpa using h2⟩
    rw [Array.mapM_eq_mapM_toList]
    simp only [map_eq_pure_bind, bind_assoc, pure_bind, Sem.run_bind, h1, Result.andThen, Sem.run_pure]
    congr 1
    unfold resultV
    match vs with
    | [] => simp
    | [v] => simp
    | v :: u :: r => simp
  exact key _ (fun _ => rfl) (fun _ _ => rfl)

/-- The way out, at the door. -/
theorem leave_sound {P : Program} {fn : Func} {a : Act} {fr : Fr} {w0 : World} {Q : Value → Heap → Prop} (hf : Fits fr a.tmps) : ∀ (ds : List Deferred) (w : World), Outer w0 w →
    leaveH P ds w.heap (fun h => resultsH P fn.results.toList fr [] h fun vs h => Q (resultV vs) h) →
    LeavesInM Wd 0 P fn a.tmps (fun e w' => ∃ v, e = .returned v ∧ Q v w'.heap ∧ Outer w0 w') ds .returning w
  | [], w, ho, x => by
    obtain ⟨vs, h1, h2⟩ := results_sound hf x
    exact ⟨_, h1, _, rfl, h2, ho⟩
  | d :: ds, w, ho, x => by
    obtain ⟨tgt, dargs⟩ := d
    refine ⟨by simp, ?_⟩
    unfold leaveH at x
    simp only at x
    split at x
    · rename_i f cap
      right
      obtain ⟨h1, h2⟩ := x w rfl
      refine ⟨(fun h => by cases h), .func f, cap, f, dargs ++ cap, rfl, h1, fun g _ => trivial, ?_⟩
      refine h2.mono ?_
      rintro e u w' ⟨v, rfl, rfl, k, o⟩
      exact leave_sound hf ds w' (ho.trans o) k
    · rename_i r
      left
      obtain ⟨h1, h2⟩ := x
      refine ⟨r, { w with heap := w.heap.setIfInBounds r (.deferred none) }, rfl, ?_, ?_⟩
      · simp [Instr.takeDeferred, getObj, setObj, Sem.run_bind, Sem.run, h1, Result.andThen]
      · exact leave_sound hf ds _ (ho.trans ⟨rfl, rfl, rfl⟩) h2
    · exact x.elim

theorem exit_sound {P : Program} {fn : Func} {w0 : World} {Q : Value → Heap → Prop} {e : Exit} {a : Act} {w : World} (x : ReachC w0 (exitH P fn Q) e a w) :
    bodyPostM Wd 0 P fn (fun e w' => ∃ v, e = .returned v ∧ Q v w'.heap ∧ Outer w0 w') e a w := by
  obtain ⟨fr, h1, h2, h3⟩ := x
  cases e with
  | normal => exact leave_sound h1 _ _ h3 h2
  | ret => exact leave_sound h1 _ _ h3 h2
  | _ => exact h2.elim

theorem plain_wide : PlainF Wd := .inl rfl

/-- The contract of a function of the program, out of its formula. -/
theorem call_of_fn {P : Program} {M : Nat → Nat} {f : FuncId} {fn : Func} (hf : P.funcs[f]? = some fn) (hb : fn.body.isSome = true) (hng : (fn.name == "runtime.NumGoroutine") = false) {args : List Value} (hn : args.length ≤ fn.ntmps) {h : Heap} {Q : Value → Heap → Prop}
    (x : fnH P M fn args h Q) : CallH P f args.toArray h Q := by
  obtain ⟨c, hc⟩ := Option.isSome_iff_exists.1 hb
  intro w hw
  subst hw
  right
  constructor
  · simp [callFunc, program, Sem.run_bind, Sem.run, Result.andThen, hf, hc]
    exact by simpa using hng
  · refine callsIn_of_wp_marks hf hc trivial ?_
    unfold fnH at x
    rw [hc] at x
    refine dn_sound plain_wide rfl c (initF fn.ntmps args) _ w (exitH P fn Q) _ (.inl rfl) ?_ x fun e a' w' r => exit_sound r
    rw [initF_fits _ _ hn]
    have := fits_all (l := args ++ List.replicate (fn.ntmps - args.length) undef) (t := args.toArray ++ Array.replicate (fn.ntmps - args.toArray.size) undef) (by simp)
    simpa using this
end Go.Proofs.Ytabidhoaginokaa.Vc
