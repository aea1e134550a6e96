/-
  A ROUND OF A RANGE OVER A FUNCTION, a loop, a deferred call: their contracts out of the formulas.
-/
import Derived.Test.YtabidhoaginokaaVcL
namespace Go.Proofs.Ytabidhoaginokaa.Vc
open Go
set_option linter.unusedVariables false
set_option linter.unusedSimpArgs false

def putArgs : Fr → List Nat → List Value → Fr
  | fr, t :: ts, v :: vs => putArgs (fr.set t (some v)) ts vs
  | fr, _, _ => fr
theorem putArgs_fits : ∀ (ts : List Nat) (vs : List Value) (fr : Fr) (tm : Array Value), Fits fr tm → Fits (putArgs fr ts vs) ((ts.zip vs).foldl (fun tmps x => tmps.setIfInBounds x.1 x.2) tm)
  | [], vs, fr, tm, h => by simpa [putArgs] using h
  | t :: ts, [], fr, tm, h => by simpa [putArgs] using h
  | t :: ts, v :: vs, fr, tm, h => by
    simp only [putArgs, List.zip_cons_cons, List.foldl_cons]
    exact putArgs_fits ts vs _ _ (h.set t v)

def roundK (l : Nat) (Q : Value → Heap → Prop) (e : Exit) (fr : Fr) (ds : List Deferred) (h : Heap) : Prop :=
  ∃ r, h[l]? = some (.loop r) ∧ (match e with
    | .normal => Q (.bool true) (h.setIfInBounds l (.loop { r with state := .ready, pending := none }))
    | .ret => Q (.bool false) (h.setIfInBounds l (.loop { r with state := .done, pending := some .ret }))
    | .exit i => Q (.bool false) (h.setIfInBounds l (.loop { r with state := .done, pending := some (.exit i) }))
    | .goto i => Q (.bool false) (h.setIfInBounds l (.loop { r with state := .done, pending := some (.goto i) }))
    | _ => False)
def roundA (P : Program) (M : Nat → Nat) (l : Nat) (body : Code) (Q : Value → Heap → Prop) (e : Exit) (fr : Fr) (ds : List Deferred) (h : Heap) : Prop :=
  match e with
  | .normal => ∃ r, h[l]? = some (.loop r) ∧ r.state = .ready ∧ dn P M (some l) body fr ds (h.setIfInBounds l (.loop { r with state := .busy })) (roundK l Q)
  | _ => False

theorem plain_round (l : Nat) : PlainF (Wd.inRound l) := .inr ⟨l, rfl⟩

theorem round_of_dn {P : Program} {M : Nat → Nat} {l : Nat} {args : List Value} {h : Heap} {Q : Value → Heap → Prop} {r : Loop} {fr : Fr} {ps : Array Tmp} {assign body : Code}
    (hl : h[l]? = some (.loop r)) (hps : r.params = ps) (ha : r.assign = assign) (hb : r.body = body) (hf : Fits fr r.tmps) (hs : args.length = ps.size) (hnd : (noDeferC assign && noDeferC body) = true)
    (x : dn P M (some l) assign (putArgs fr ps.toList args) [] h (roundA P M l body Q)) : RoundH P l args.toArray h Q := by
  intro w hw
  subst hw hps ha hb
  rw [Bool.and_eq_true] at hnd
  refine ⟨_, _, _, _, run_yield hl (by simpa using hs), roundIn_of_wpIn trivial ?_⟩
  have e : (Array.zip r.params args.toArray).foldl (fun tmps (t, a) => tmps.setIfInBounds t a) r.tmps = (r.params.toList.zip args).foldl (fun tmps x => tmps.setIfInBounds x.1 x.2) r.tmps := by
    rw [← Array.foldl_toList]; simp
  rw [e]
  refine dn_sound (F := Wd.inRound l) (plain_round l) (R := some l) rfl _ _ _ w (roundA P M l r.body Q) _ (.inr hnd.1) (putArgs_fits _ _ _ _ hf) x ?_
  rintro e a' w' ⟨fr', h1, h2, h3⟩
  cases e with
  | normal =>
    obtain ⟨r', hr, hst, y⟩ := h2
    refine ⟨_, run_beginRound hr hst, ?_⟩
    refine dn_sound (F := Wd.inRound l) (plain_round l) (R := some l) rfl _ fr' a' (w'.putObj l (.loop { r' with state := .busy })) (roundK l Q) _ (.inr hnd.2) h1 y ?_
    rintro e a'' w'' ⟨fr'', k1, k2, k3⟩
    obtain ⟨r'', hr'', k⟩ := k2
    have o : ∀ o, Outer w (w''.putObj l o) := fun _ => ⟨k3.tape.trans h3.tape, k3.os.trans h3.os, k3.output.trans h3.output⟩
    cases e with
    | normal => exact ⟨_, _, run_endRound none hr'', _, rfl, k, o _⟩
    | ret => exact ⟨_, _, run_endRound (some .ret) hr'', _, rfl, k, o _⟩
    | exit i => exact ⟨_, _, run_endRound (some (.exit i)) hr'', _, rfl, k, o _⟩
    | goto i => exact ⟨_, _, run_endRound (some (.goto i)) hr'', _, rfl, k, o _⟩
    | panic => exact k.elim
    | outgrown => exact k.elim
  | _ => exact h2.elim

theorem callV_fn {P : Program} {f : FuncId} {args : List Value} {h : Heap} {Q : Value → Heap → Prop} (x : CallH P f args.toArray h Q) : CallV P (.func (.func f) #[] #[]) args h Q := by
  unfold CallV; simpa using x
theorem callV_yield {P : Program} {l : Nat} {args : List Value} {h : Heap} {Q : Value → Heap → Prop} (x : RoundH P l args.toArray h Q) : CallV P (.func (.yield l) #[] #[]) args h Q := by
  unfold CallV; simpa using x

/-! ### Loops -/
def loopK (body : Fr → List Deferred → Heap → (Exit → Fr → List Deferred → Heap → Prop) → Prop) (n : Nat) (K : Exit → Fr → List Deferred → Heap → Prop) (e : Exit) (fr : Fr) (ds : List Deferred) (h : Heap) : Prop :=
  match e with
  | .normal => LoopN body n fr ds h K
  | e => K e fr ds h
theorem loopN_succ (body : Fr → List Deferred → Heap → (Exit → Fr → List Deferred → Heap → Prop) → Prop) (n : Nat) (fr : Fr) (ds : List Deferred) (h : Heap) (K : Exit → Fr → List Deferred → Heap → Prop) :
    LoopN body (n + 1) fr ds h K = body fr ds h (loopK body n K) := rfl
theorem loop_of {body : Fr → List Deferred → Heap → (Exit → Fr → List Deferred → Heap → Prop) → Prop} {fr : Fr} {ds : List Deferred} {h : Heap} {K : Exit → Fr → List Deferred → Heap → Prop} (n : Nat) (x : LoopN body n fr ds h K) : LoopH body fr ds h K := ⟨n, x⟩

section
variable {id : Nat} {e : Exit} {fr : Fr} {ds : List Deferred} {h : Heap} {K : Exit → Fr → List Deferred → Heap → Prop} {Y : Fr → List Deferred → Heap → (Exit → Fr → List Deferred → Heap → Prop) → Prop} {n : Nat}
theorem kx_exit : blockK id K (.exit id) fr ds h = K .normal fr ds h := by simp [blockK]
theorem kx_exit_ne {i : Nat} (hi : (i == id) = false) : blockK id K (.exit i) fr ds h = K (.exit i) fr ds h := by simp [blockK, hi]
theorem kx_normal : blockK id K .normal fr ds h = K .normal fr ds h := rfl
theorem kx_ret : blockK id K .ret fr ds h = K .ret fr ds h := rfl
theorem ks_normal : seqK Y K .normal fr ds h = Y fr ds h K := rfl
theorem ks_exit {i : Nat} : seqK Y K (.exit i) fr ds h = K (.exit i) fr ds h := rfl
theorem ks_ret : seqK Y K .ret fr ds h = K .ret fr ds h := rfl
theorem kl_normal : loopK Y n K .normal fr ds h = LoopN Y n fr ds h K := rfl
theorem kl_exit {i : Nat} : loopK Y n K (.exit i) fr ds h = K (.exit i) fr ds h := rfl
theorem kl_ret : loopK Y n K .ret fr ds h = K .ret fr ds h := rfl
end

/-! ### A call, for the row -/
theorem calls_of_callH {P : Program} {f : FuncId} {args : Array Value} {w : World} {Q : Value → Heap → Prop} (hen : entersB P f = true) (x : CallH P f args w.heap Q) :
    Calls P f args w fun e w' => ∃ v, e = .returned v ∧ Q v w'.heap ∧ Outer w w' := callsIn_wide.1 (CallH.enters hen x)

/-! ### A deferred call -/
theorem def_of_fn {P : Program} {M : Nat → Nat} {f : FuncId} {fn : Func} (hf : P.funcs[f]? = some fn) (hb : fn.body.isSome = true) (hen : entersB P f = true) {args : List Value} (hn : args.length ≤ fn.ntmps) {h : Heap} {Q : Value → Heap → Prop}
    (x : match fn.body with
      | some c => dn P M none c (initF fn.ntmps args) [] h (fun e fr ds h => ds = [] ∧ exitH P fn Q e fr [] h)
      | none => False) : DefH P f args.toArray h Q := by
  obtain ⟨c, hc⟩ := Option.isSome_iff_exists.1 hb
  intro w hw
  subst hw
  refine ⟨run_enters hen _ _, ?_⟩
  rw [hc] at x
  simp only at x
  refine (callsDIn_of_wp (R := fun e w' => ∃ v, e = .returned v ∧ Q v w'.heap ∧ Outer w w') hf hc trivial ?_).mono ?_
  · refine dn_sound plain_wide rfl c (initF fn.ntmps args) _ w _ _ (.inl rfl) ?_ x ?_
    · rw [initF_fits _ _ hn]
      have := fits_all (l := args ++ List.replicate (fn.ntmps - args.length) undef) (t := args.toArray ++ Array.replicate (fn.ntmps - args.toArray.size) undef) (by simp)
      simpa using this
    · rintro e a' w' ⟨fr, h1, ⟨hd, h2⟩, h3⟩
      cases e with
      | normal =>
        obtain ⟨vs, k1, k2⟩ := results_sound h1 h2
        exact ⟨hd, _, k1, _, rfl, k2, h3⟩
      | ret =>
        obtain ⟨vs, k1, k2⟩ := results_sound h1 h2
        exact ⟨hd, _, k1, _, rfl, k2, h3⟩
      | _ => exact h2.elim
  · rintro e u w' ⟨rfl, v, rfl, q, o⟩
    exact ⟨v, rfl, rfl, q, o⟩
end Go.Proofs.Ytabidhoaginokaa.Vc
