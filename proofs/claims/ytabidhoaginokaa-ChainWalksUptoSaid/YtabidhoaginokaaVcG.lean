/-
  Operations and regions, at the machine.
-/
import Derived.Test.YtabidhoaginokaaVcF
namespace Go.Proofs.Ytabidhoaginokaa.Vc
open Go
set_option linter.unusedVariables false
set_option linter.unusedSimpArgs false

def PlainF (F : Fence) : Prop := F = Wd ∨ ∃ l, F = Wd.inRound l
theorem PlainF.fn {F : Fence} (h : PlainF F) (f : FuncId) : F.fn f := by rcases h with rfl | ⟨l, rfl⟩ <;> trivial
theorem PlainF.depth {F : Fence} (h : PlainF F) : F.depth = none := by rcases h with rfl | ⟨l, rfl⟩ <;> rfl
theorem PlainF.dep {F : Fence} (h : PlainF F) {p : Prop} : F.depth.isSome = true → p := by rw [h.depth]; intro x; cases x
theorem PlainF.calls {F : Fence} (h : PlainF F) {n : Nat} {P : Program} {f : FuncId} {args : Array Value} {w : World} {R : Ending → World → Prop} (x : CallsIn Wd n P f args w R) : CallsIn F n P f args w R := by
  rcases h with rfl | ⟨l, rfl⟩
  · exact x
  · exact CallsIn.inRound l x
theorem PlainF.round {F : Fence} (h : PlainF F) {n : Nat} {P : Program} {l : Nat} {f : FuncId} {tmps : Array Value} {b c : Code} {w : World} {R : Ending → World → Prop} (x : RoundIn Wd n P l f tmps b c w R) : RoundIn F n P l f tmps b c w R := by
  rcases h with rfl | ⟨l, rfl⟩
  · exact x
  · exact x
theorem callsIn_mono {F : Fence} {n : Nat} {P : Program} {f : FuncId} {args : Array Value} {w : World} {R R' : Ending → World → Prop} (x : CallsIn F n P f args w R) (y : ∀ e w, R e w → R' e w) : CallsIn F n P f args w R' :=
  ⟨x.1, fun cs hr => let ⟨e, w', fr, r, rest⟩ := x.2 cs hr; ⟨e, w', fr, y _ _ r, rest⟩⟩

section
variable {P : Program} {F : Fence} {a : Act} {next : Act → World → Prop} {Q : Exit → Act → World → Prop}

theorem put_defers (a : Act) (d : Option Tmp) (v : Value) : (a.put d v).defers = a.defers := by cases d <;> rfl
/-- What an operation's run must come to. -/
def Upon (P : Program) (F : Fence) (w : World) (K : Value → Heap → Prop) (D : Deferred → Heap → Prop) : Result Next → Prop
  | .ok (.value v) w' => K v w'.heap ∧ Outer w w'
  | .ok .skip w' => K undef w'.heap ∧ Outer w w'
  | .ok (.defer d) w' => D d w'.heap ∧ Outer w w'
  | .ok (.enter f args) w' => CallsIn F 0 P f args w' fun e w'' => ∃ v, e = .returned v ∧ K v w''.heap ∧ Outer w w''
  | .ok (.round l f tmps b c) w' => RoundIn F 0 P l f tmps b c w' fun e w'' => ∃ v, e = .returned v ∧ K v w''.heap ∧ Outer w w''
  | _ => False

theorem upon_semN {s : Sem Next} {w : World} {K : Value → Heap → Prop} {D : Deferred → Heap → Prop} (x : semN P s w.heap K D) : Upon P F w K D (s.run P w) := by
  obtain ⟨n, w', h1, h2, h3⟩ := semH_run P s w x
  rw [h1]
  cases n <;> first | exact ⟨h2, h3⟩ | exact h2.elim
theorem upon_call (hF : PlainF F) {f : FuncId} {args : Array Value} {w w1 : World} {K : Value → Heap → Prop} {D : Deferred → Heap → Prop} (ho : Outer w w1) (x : CallH P f args w1.heap K) : Upon P F w K D ((callFunc f args).run P w1) := by
  rcases x w1 rfl with ⟨v, w', h1, h2, h3⟩ | ⟨h1, h2⟩
  · rw [h1]; exact ⟨h2, ho.trans h3⟩
  · rw [h1]
    exact hF.calls (callsIn_mono h2 fun e w' ⟨v, he, k, o⟩ => ⟨v, he, k, ho.trans o⟩)
theorem upon_val (hF : PlainF F) {fv : Value} {args : Array Value} {w : World} {K : Value → Heap → Prop} {D : Deferred → Heap → Prop} (x : CallV P fv args.toList w.heap K) :
    Upon P F w K D ((do let d ← Deferred.ofValue fv args; invoke d.target d.args : Sem Next).run P w) := by
  unfold CallV at x
  split at x
  · rename_i f first cap
    have := upon_call (D := D) hF (Outer.refl w) x
    have e : (first.toList ++ args.toList ++ cap.toList).toArray = first ++ args ++ cap := by apply Array.ext'; simp
    rw [e] at this
    exact this
  · rename_i l first cap
    obtain ⟨f, tmps, b, c, h1, h2⟩ := x w rfl
    have e : (first.toList ++ args.toList).toArray = first ++ args := by apply Array.ext'; simp
    rw [e] at h1
    show Upon P F w K D ((Instr.yield l (first ++ args)).run P w)
    rw [h1]
    exact hF.round h2
  · exact x.elim
theorem upon_invoke (hF : PlainF F) {recv : Value} {name : String} {args : Array Value} {w : World} {K : Value → Heap → Prop} {D : Deferred → Heap → Prop} (x : InvokeH P recv name args.toList w.heap K) :
    Upon P F w K D ((invoke (.fn (.method name) #[]) (#[recv] ++ args)).run P w) := by
  unfold InvokeH at x
  split at x
  · rename_i t v
    obtain ⟨r, w1, h1, h2, h3⟩ := semH_run P _ w x
    have e1 : (#[Value.iface t v] ++ args)[0]? = some (.iface t v) := by rw [← Array.getElem?_toList]; rw [Array.toList_append]; rfl
    have e2 : (#[Value.iface t v] ++ args).extract 1 (#[Value.iface t v] ++ args).size = args := by
      apply Array.ext'; simp
    simp only [invoke, e1, callMethod]
    rw [e2]
    simp only [Sem.run_bind, program, Sem.run, Result.andThen, h1]
    have := upon_call (D := D) hF h3 h2
    have e : (r.2 :: args.toList).toArray = #[r.2] ++ args := by apply Array.ext'; simp
    rw [e] at this
    exact this
  · exact x.elim
theorem upon_shape {w : World} {t : TypeId} {K : Value → Heap → Prop} {D : Deferred → Heap → Prop} {r : Result Next} (x : Upon P F w (fun v h => shapeP P t v fun v => K v h) D r) : Upon P F w K D r := by
  unfold Upon at x ⊢
  split at x
  · exact ⟨shapeP_out x.1, x.2⟩
  · exact ⟨shapeP_out x.1, x.2⟩
  · exact x
  · exact callsIn_mono x fun e w ⟨v, he, k, o⟩ => ⟨v, he, shapeP_out k, o⟩
  · exact x.mono fun e w ⟨v, he, k, o⟩ => ⟨v, he, shapeP_out k, o⟩
  · exact x.elim

theorem opH_upon (hF : PlainF F) {ρ : Operand → Value} {o : Oper} {w : World} {K : Value → Heap → Prop} {D : Deferred → Heap → Prop} (x : opH P ρ o w.heap K D) : Upon P F w K D ((execOp ρ o).run P w) := by
  by_cases hc : ∀ c, o.op = .call c → ∃ b, c.callee = .builtin b
  · exact upon_semN (opH_sem x hc)
  · obtain ⟨dst, op, ty, pos, aft, gd⟩ := o
    cases op
    case call c =>
      obtain ⟨callee, args, ats⟩ := c
      have e : (args.map ρ).toList = args.toList.map ρ := by simp
      cases callee with
      | builtin b => exact absurd (fun c hc => by cases hc; exact ⟨b, rfl⟩) hc
      | value f =>
        simp only [opH] at x
        refine upon_shape (t := ty) ?_
        simp only [execOp, resolve]
        rw [← e] at x
        exact upon_val hF x
      | invoke r name =>
        simp only [opH] at x
        refine upon_shape (t := ty) ?_
        simp only [execOp, resolve]
        rw [← e] at x
        exact upon_invoke hF x
    all_goals exact absurd (fun c hc => by cases hc) hc

/-- Next: what is reached. -/
def Reach (w : World) (K : Fr → List Deferred → Heap → Prop) (a' : Act) (w' : World) : Prop := ∃ fr, Fits fr a'.tmps ∧ K fr a'.defers w'.heap ∧ Outer w w'

def noDefer (o : Oper) : Bool := match o.op with
  | .defer _ => false
  | _ => true

theorem opRun_sound (hF : PlainF F) {o : Oper} {fr : Fr} {w : World} {K : Fr → List Deferred → Heap → Prop} (hf : Fits fr a.tmps) (hd : F.round = none ∨ noDefer o = true) (x : opRun P o fr a.defers w.heap K)
    (hn : ∀ a' w', Reach w K a' w' → next a' w') : o.wpIn F 0 P a w next Q := by
  obtain ⟨hav, x⟩ := x.out
  have hrho := avail_eval hf hav
  refine ⟨fun f _ => hF.fn f, ?_⟩
  have hsem : o.semAt F.round a.eval = execOp (rhoF fr) o := by
    rw [← execOp_congr o hrho]
    cases hr : F.round with
    | none => rfl
    | some l =>
      refine Oper.semAt_eq _ _ _ fun c hc => ?_
      rcases hd with hd | hd
      · rw [hr] at hd; cases hd
      · simp [noDefer, hc] at hd
  rw [hsem]
  have u := opH_upon hF x
  unfold Upon at u
  unfold Oper.uponIn
  split at u
  · rename_i v w' he
    rw [he]
    exact hn _ _ ⟨_, hf.put o.dst v, by rw [put_defers]; exact u.1, u.2⟩
  · rename_i w' he
    rw [he]
    exact hn _ _ ⟨_, hf.put o.dst undef, by rw [put_defers]; exact u.1, u.2⟩
  · rename_i d w' he
    rw [he]
    refine hn _ _ ⟨_, Fits.put (a := { a with defers := d :: a.defers }) hf o.dst undef, ?_, u.2⟩
    rw [put_defers]; exact u.1
  · rename_i f args w' he
    rw [he]
    refine ⟨hF.dep, callsIn_mono u fun e w'' ⟨v, hv, k, o'⟩ => ?_⟩
    subst hv
    exact hn _ _ ⟨_, hf.put o.dst v, by rw [put_defers]; exact k, o'⟩
  · rename_i l f tmps b c w' he
    rw [he]
    refine ⟨hF.dep, u.mono fun e w'' ⟨v, hv, k, o'⟩ => ?_⟩
    subst hv
    exact hn _ _ ⟨_, hf.put o.dst v, by rw [put_defers]; exact k, o'⟩
  · exact u.elim

theorem BIf.out {b : Bool} {X Y : Prop} (h : BIf b X Y) : (b = true ∧ X) ∨ (b = false ∧ Y) := by cases b; exact .inr ⟨rfl, h⟩; exact .inl ⟨rfl, h⟩

/-- One operation of a region, wanted or not. -/
theorem opStep_sound (hF : PlainF F) {ops : Array Oper} {i : Nat} {rest : List Nat} {o : Oper} (hi : ops[i]? = some o) {fr : Fr} {w : World} {K : Fr → List Deferred → Heap → Prop} (hf : Fits fr a.tmps) (hd : F.round = none ∨ noDefer o = true)
    (x : opStep P ops.toList o fr a.defers w.heap K) (hn : ∀ a' w', Reach w K a' w' → wpOpsIn F 0 P ops Q rest a' w') : wpOpsIn F 0 P ops Q (i :: rest) a w := by
  simp only [wpOpsIn, hi]
  have skip : ∀ fr', Fits fr' a.tmps → opSkip o fr' a.defers w.heap K → wpOpsIn F 0 P ops Q rest (a.put o.dst undef) w := by
    intro fr' hf' y
    exact hn _ _ ⟨_, hf'.put o.dst undef, by rw [put_defers]; exact y, Outer.refl w⟩
  unfold opStep at x
  split at x
  · rename_i hg
    have hw : Region.wanted o (yielded ops a.tmps) = true := by simp [Region.wanted, hg]
    rw [if_pos hw]
    exact opRun_sound hF hf hd x hn
  · rename_i j want hg
    split at x
    · rename_i d hs
      have hsd : (ops[j]?).bind (·.dst) = some d := by
        unfold slotF at hs
        split at hs
        · rename_i g hgj
          rw [nth_eq, Array.getElem?_toList] at hgj
          simp [hgj, hs]
        · cases hs
      split at x
      · rename_i b hb
        have hnd := nthF_some hb
        have hy : yielded ops a.tmps j = some b := by
          unfold yielded
          rw [hsd]
          simp [hf.2 d _ hnd]
        have hw : Region.wanted o (yielded ops a.tmps) = (b == want) := by
          simp [Region.wanted, hg, hy]
        split at x
        · rcases x.out with ⟨hb', y⟩ | ⟨hb', y⟩
          · rw [if_pos (by rw [hw, hb']; rfl)]
            exact opRun_sound hF (hf.know d _ hnd _ (by rw [hb'])) hd y hn
          · rw [if_neg (by rw [hw, hb']; simp)]
            exact ⟨fun f _ => hF.fn f, skip _ (hf.know d _ hnd _ (by rw [hb'])) y⟩
        · rcases x.out with ⟨hb', y⟩ | ⟨hb', y⟩
          · rw [if_neg (by rw [hw, hb']; simp)]
            exact ⟨fun f _ => hF.fn f, skip _ (hf.know d _ hnd _ (by rw [hb'])) y⟩
          · rw [if_pos (by rw [hw, hb']; rfl)]
            exact opRun_sound hF (hf.know d _ hnd _ (by rw [hb'])) hd y hn
      · rename_i vs hb
        have hnd := nthF_some hb
        have hy : yielded ops a.tmps j = none := by
          unfold yielded
          rw [hsd]
          simp [hf.2 d _ hnd]
        rw [if_neg (by simp [Region.wanted, hg, hy])]
        exact ⟨fun f _ => hF.fn f, skip _ hf x⟩
      · exact x.elim
    · exact x.elim


/-- In the text's order. -/
theorem opsT_sound (hF : PlainF F) {ops : Array Oper} (hd : F.round = none ∨ ∀ o ∈ ops.toList, noDefer o = true) {K : Fr → List Deferred → Heap → Prop} (w0 : World) :
    ∀ (l : List Oper) (k : Nat) (fr : Fr) (a : Act) (w : World), ops.toList.drop k = l → Fits fr a.tmps → opsT P ops.toList l fr a.defers w.heap K → Outer w0 w →
      (∀ a' w', Reach w0 K a' w' → Q .normal a' w') → wpOpsIn F 0 P ops Q (List.range' k l.length) a w
  | [], k, fr, a, w, hl, hf, x, hw, hn => hn _ _ ⟨fr, hf, x, hw⟩
  | o :: r, k, fr, a, w, hl, hf, x, hw, hn => by
    have hk : ops[k]? = some o := by
      rw [← Array.getElem?_toList]
      have : (ops.toList.drop k)[0]? = some o := by rw [hl]; rfl
      simpa using this
    have hr : ops.toList.drop (k + 1) = r := by
      rw [← List.tail_drop, hl]; rfl
    rw [List.length_cons, List.range'_succ]
    refine opStep_sound hF hk hf (hd.imp id fun h => h o (by rw [← Array.getElem?_toList] at hk; exact List.mem_of_getElem? hk)) x ?_
    rintro a' w' ⟨fr', hf', y, hw'⟩
    exact opsT_sound hF hd w0 r (k + 1) fr' a' w' hr hf' y (hw.trans hw') hn
end
end Go.Proofs.Ytabidhoaginokaa.Vc
