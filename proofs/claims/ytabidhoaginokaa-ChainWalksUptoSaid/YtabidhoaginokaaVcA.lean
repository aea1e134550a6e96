/-
  HEAP-LEVEL WEAKEST PRECONDITIONS over the model's own 'Sem' terms: what an operation does to the heap, whatever the tape says; sound for 'Sem.run'.
-/
import Derived.RangeFuncLeaves
import Derived.LoopNIn
import Derived.Laws.Sem
import Derived.Laws.World
import Derived.KernelRfl
namespace Go.Proofs.Ytabidhoaginokaa.Vc
open Go

abbrev Heap := Array Obj

structure Outer (w w' : World) : Prop where
  tape : w'.tape = w.tape
  os : w'.os = w.os
  output : w'.output = w.output

theorem Outer.refl (w : World) : Outer w w := ⟨rfl, rfl, rfl⟩
theorem Outer.trans {a b c : World} (h : Outer a b) (h' : Outer b c) : Outer a c := ⟨h'.tape.trans h.tape, h'.os.trans h.os, h'.output.trans h.output⟩

def cellH (h : Heap) (a : Addr) : Option Value :=
  match h[a.block]? with
  | some (.cells c _ _) => if a.spot.isSome then none else c[a.off]?
  | _ => none
def shapeH (h : Heap) (r : Nat) : Option (TypeId × Nat) :=
  match h[r]? with
  | some (.cells c elem _) => some (elem, c.size)
  | _ => none
def frozenH (h : Heap) (a : Addr) : Bool :=
  match h[a.block]? with
  | some (.cells _ _ (lo, hi)) => lo ≤ a.off && a.off < hi
  | _ => false
def freezeH (h : Heap) (a : Addr) (n : Nat) : Heap :=
  if n = 0 then h else
  h.modify a.block fun
      | .cells c elem (lo, hi) => .cells c elem (if lo == hi then (a.off, a.off + n) else (min lo a.off, max hi (a.off + n)))
      | o => o
def setCellH (h : Heap) (a : Addr) (v : Value) : Heap :=
  h.modify a.block fun
      | .cells c elem frozen => .cells (if a.spot.isSome then c else c.setIfInBounds a.off v) elem frozen
      | o => o

theorem cell_eq (w : World) (a : Addr) : w.cell? a = cellH w.heap a := rfl
theorem shape_eq (w : World) (r : Nat) : w.shape? r = shapeH w.heap r := rfl
theorem frozen_eq (w : World) (a : Addr) : w.frozen? a = frozenH w.heap a := rfl
theorem setCell_heap (w : World) (a : Addr) (v : Value) : (w.setCell a v).heap = setCellH w.heap a v := rfl
theorem freeze_heap (w : World) (a : Addr) (n : Nat) : (w.freeze a n).heap = freezeH w.heap a n := by
  unfold World.freeze freezeH; split <;> rfl

def Guard (b : Bool) (X : Prop) : Prop := match b with | true => X | false => False
theorem Guard.intro {b : Bool} {X : Prop} (h : b = true) (x : X) : Guard b X := by subst h; exact x
theorem Guard.out {b : Bool} {X : Prop} (h : Guard b X) : b = true ∧ X := by cases b; exact h.elim; exact ⟨rfl, h⟩

def cellV : Value → Bool
  | .agg _ | .tuple _ => false
  | _ => true
def noCells : Obj → Bool
  | .cells .. => false
  | _ => true

section
variable (P : Program)
/-- What a 'Sem' term comes to, whatever the tape says. -/
def semH {α : Type} : Sem α → Heap → (α → Heap → Prop) → Prop
  | .pure a, h, K => K a h
  | .load _ a k, h, K => ∃ v, cellH h a = some v ∧ semH (k v) h K
  | .store _ a v k, h, K => (∃ u, cellH h a = some u) ∧ frozenH h a = false ∧ Guard (cellV v) (semH k (setCellH h a v) K)
  | .new o k, h, K => semH (k h.size) (h.push o) K
  | .shape r k, h, K => semH (k (shapeH h r)) h K
  | .freeze a n k, h, K => semH k (freezeH h a n) K
  | .frozen a k, h, K => semH (k (frozenH h a)) h K
  | .getObj r k, h, K => ∃ o, h[r]? = some o ∧ noCells o = true ∧ semH (k o) h K
  | .setObj r o k, h, K => (∃ o', h[r]? = some o' ∧ noCells o' = true) ∧ semH k (h.setIfInBounds r o) K
  | .choose q k, h, K => match q.forced with | true => semH (k 0) h K | false => ∀ t, semH (k (q.cut t)) h K
  | .sys _ _, _, _ => False
  | .program k, h, K => semH (k P) h K
  | .mark _ k, h, K => semH k h K
  | .halt _, _, _ => False

theorem semH_mono {α : Type} {s : Sem α} : ∀ {h : Heap} {K K' : α → Heap → Prop}, semH P s h K → (∀ a h, K a h → K' a h) → semH P s h K' := by
  induction s with
  | pure a => intro h K K' x y; exact y _ _ x
  | load m a k ih => rintro h K K' ⟨v, hv, x⟩ y; exact ⟨v, hv, ih v x y⟩
  | store m a v k ih => rintro h K K' ⟨hu, hf, x⟩ y; exact ⟨hu, hf, Guard.intro x.out.1 (ih x.out.2 y)⟩
  | new o k ih => intro h K K' x y; exact ih _ x y
  | shape r k ih => intro h K K' x y; exact ih _ x y
  | freeze a n k ih => intro h K K' x y; exact ih (h := freezeH h a n) x y
  | frozen a k ih => intro h K K' x y; exact ih _ x y
  | getObj r k ih => rintro h K K' ⟨o, ho, hn, x⟩ y; exact ⟨o, ho, hn, ih o x y⟩
  | setObj r o k ih => rintro h K K' ⟨ho, x⟩ y; exact ⟨ho, ih x y⟩
  | choose q k ih =>
    intro h K K' x y
    simp only [semH] at x ⊢
    split <;> rename_i hq <;> rw [hq] at x
    · exact ih _ x y
    · exact fun t => ih _ (x t) y
  | sys c k ih => intro h K K' x y; exact x.elim
  | program k ih => intro h K K' x y; exact ih _ x y
  | mark m k ih => intro h K K' x y; exact ih x y
  | halt h => intro h K K' x y; exact x.elim

theorem semH_bind {α β : Type} (s : Sem α) (f : α → Sem β) : ∀ {h : Heap} {K : β → Heap → Prop}, semH P s h (fun a h' => semH P (f a) h' K) → semH P (s.bind f) h K := by
  induction s with
  | pure a => intro h K x; exact x
  | load m a k ih => rintro h K ⟨v, hv, x⟩; exact ⟨v, hv, ih v x⟩
  | store m a v k ih => rintro h K ⟨hu, hf, x⟩; exact ⟨hu, hf, Guard.intro x.out.1 (ih x.out.2)⟩
  | new o k ih => intro h K x; exact ih _ x
  | shape r k ih => intro h K x; exact ih _ x
  | freeze a n k ih => intro h K x; exact ih (h := freezeH h a n) x
  | frozen a k ih => intro h K x; exact ih _ x
  | getObj r k ih => rintro h K ⟨o, ho, hn, x⟩; exact ⟨o, ho, hn, ih o x⟩
  | setObj r o k ih => rintro h K ⟨ho, x⟩; exact ⟨ho, ih x⟩
  | choose q k ih =>
    intro h K x
    simp only [semH, Sem.bind] at x ⊢
    split <;> rename_i hq <;> rw [hq] at x
    · exact ih _ x
    · exact fun t => ih _ (x t)
  | sys c k ih => intro h K x; exact x.elim
  | program k ih => intro h K x; exact ih _ x
  | mark m k ih => intro h K x; exact ih x
  | halt h => intro h K x; exact x.elim

theorem semH_of_bind {α β : Type} (s : Sem α) (f : α → Sem β) : ∀ {h : Heap} {K : β → Heap → Prop}, semH P (s.bind f) h K → semH P s h (fun a h' => semH P (f a) h' K) := by
  induction s with
  | pure a => intro h K x; exact x
  | load m a k ih => rintro h K ⟨v, hv, x⟩; exact ⟨v, hv, ih v x⟩
  | store m a v k ih => rintro h K ⟨hu, hf, x⟩; exact ⟨hu, hf, Guard.intro x.out.1 (ih x.out.2)⟩
  | new o k ih => intro h K x; exact ih _ x
  | shape r k ih => intro h K x; exact ih _ x
  | freeze a n k ih => intro h K x; exact ih (h := freezeH h a n) x
  | frozen a k ih => intro h K x; exact ih _ x
  | getObj r k ih => rintro h K ⟨o, ho, hn, x⟩; exact ⟨o, ho, hn, ih o x⟩
  | setObj r o k ih => rintro h K ⟨ho, x⟩; exact ⟨ho, ih x⟩
  | choose q k ih =>
    intro h K x
    simp only [semH, Sem.bind] at x ⊢
    split <;> rename_i hq <;> rw [hq] at x
    · exact ih _ x
    · exact fun t => ih _ (x t)
  | sys c k ih => intro h K x; exact x.elim
  | program k ih => intro h K x; exact ih _ x
  | mark m k ih => intro h K x; exact ih x
  | halt h => intro h K x; exact x.elim

/-- SOUND: the model's own run comes to it. -/
theorem semH_run {α : Type} (s : Sem α) : ∀ {K : α → Heap → Prop} (w : World), semH P s w.heap K → ∃ a w', s.run P w = .ok a w' ∧ K a w'.heap ∧ Outer w w' := by
  induction s with
  | pure a => intro K w x; exact ⟨a, w, rfl, x, .refl w⟩
  | load m a k ih =>
    rintro K w ⟨v, hv, x⟩
    obtain ⟨b, w', h1, h2, h3⟩ := ih v w x
    refine ⟨b, w', ?_, h2, h3⟩
    simp only [Sem.run, cell_eq, hv]; exact h1
  | store m a v k ih =>
    rintro K w ⟨⟨u, hu⟩, hf, x⟩
    obtain ⟨hc, x⟩ := x.out
    obtain ⟨b, w', h1, h2, h3⟩ := ih (w.setCell a v) x
    refine ⟨b, w', ?_, h2, ⟨h3.tape, h3.os, h3.output⟩⟩
    cases v <;> first | (simp [cellV] at hc; done) | (simp only [Sem.run, cell_eq, hu, frozen_eq, hf]; exact h1)
  | new o k ih =>
    intro K w x
    obtain ⟨b, w', h1, h2, h3⟩ := ih w.heap.size { w with heap := w.heap.push o } x
    exact ⟨b, w', h1, h2, ⟨h3.tape, h3.os, h3.output⟩⟩
  | shape r k ih => intro K w x; exact ih _ w x
  | freeze a n k ih =>
    intro K w x
    obtain ⟨b, w', h1, h2, h3⟩ := ih (w.freeze a n) (by rw [freeze_heap]; exact x)
    exact ⟨b, w', h1, h2, by unfold World.freeze at h3; split at h3 <;> exact ⟨h3.tape, h3.os, h3.output⟩⟩
  | frozen a k ih => intro K w x; exact ih _ w x
  | getObj r k ih =>
    rintro K w ⟨o, ho, hn, x⟩
    obtain ⟨b, w', h1, h2, h3⟩ := ih o w x
    refine ⟨b, w', ?_, h2, h3⟩
    cases o <;> first | (simp [noCells] at hn; done) | (simp only [Sem.run, ho]; exact h1)
  | setObj r o k ih =>
    rintro K w ⟨⟨o', ho, hn⟩, x⟩
    obtain ⟨b, w', h1, h2, h3⟩ := ih { w with heap := w.heap.setIfInBounds r o } x
    refine ⟨b, w', ?_, h2, ⟨h3.tape, h3.os, h3.output⟩⟩
    cases o' <;> first | (simp [noCells] at hn; done) | (simp only [Sem.run, ho]; exact h1)
  | choose q k ih =>
    intro K w x
    simp only [semH] at x
    simp only [Sem.run]
    split at x <;> rename_i hq
    · rw [if_pos hq]; exact ih _ w x
    · rw [if_neg (by simp [hq])]
      obtain ⟨b, w', h1, h2, h3⟩ := ih _ { w with drawn := w.drawn + 1 } (x (w.tape w.drawn q))
      exact ⟨b, w', h1, h2, ⟨h3.tape, h3.os, h3.output⟩⟩
  | sys c k ih => intro K w x; exact x.elim
  | program k ih => intro K w x; exact ih P w x
  | mark m k ih => intro K w x; exact ih w x
  | halt h => intro K w x; exact x.elim
end

/-! ### Calls, on the heap alone -/
abbrev Wd : Fence := Fence.wide

/-- A call of function f of the program: it comes back, whatever the tape says. -/
def CallH (P : Program) (f : FuncId) (args : Array Value) (h : Heap) (Q : Value → Heap → Prop) : Prop :=
  ∀ w : World, w.heap = h →
    (∃ v w', (callFunc f args).run P w = .ok (.value v) w' ∧ Q v w'.heap ∧ Outer w w') ∨
    ((callFunc f args).run P w = .ok (.enter f args) w ∧
      CallsIn Wd 0 P f args w fun e w' => ∃ v, e = .returned v ∧ Q v w'.heap ∧ Outer w w')

theorem CallH.mono {P : Program} {f : FuncId} {args : Array Value} {h : Heap} {Q Q' : Value → Heap → Prop} (x : CallH P f args h Q) (y : ∀ v h, Q v h → Q' v h) : CallH P f args h Q' := by
  intro w hw
  rcases x w hw with ⟨v, w', h1, h2, h3⟩ | ⟨h1, h2, h3⟩
  · exact .inl ⟨v, w', h1, y _ _ h2, h3⟩
  · refine .inr ⟨h1, h2, fun cs hr => ?_⟩
    obtain ⟨e, w', fr, ⟨v, rfl, q, o⟩, rest⟩ := h3 cs hr
    exact ⟨_, w', fr, ⟨v, rfl, y _ _ q, o⟩, rest⟩

/-- A round of a range over a function: what a call of its yield does. -/
def RoundH (P : Program) (l : Nat) (args : Array Value) (h : Heap) (Q : Value → Heap → Prop) : Prop :=
  ∀ w : World, w.heap = h → ∃ f tmps assign body, (Instr.yield l args).run P w = .ok (.round l f tmps assign body) w ∧
    RoundIn Wd 0 P l f tmps assign body w fun e w' => ∃ v, e = .returned v ∧ Q v w'.heap ∧ Outer w w'

theorem RoundH.mono {P : Program} {l : Nat} {args : Array Value} {h : Heap} {Q Q' : Value → Heap → Prop} (x : RoundH P l args h Q) (y : ∀ v h, Q v h → Q' v h) : RoundH P l args h Q' := by
  intro w hw
  obtain ⟨f, tmps, assign, body, h1, h2⟩ := x w hw
  exact ⟨f, tmps, assign, body, h1, h2.mono fun e w' ⟨v, he, q, o⟩ => ⟨v, he, y _ _ q, o⟩⟩

/-- A call of a function value. -/
def CallV (P : Program) (fv : Value) (args : List Value) (h : Heap) (Q : Value → Heap → Prop) : Prop :=
  match fv with
  | .func (.func f) first cap => CallH P f (first.toList ++ args ++ cap.toList).toArray h Q
  | .func (.yield l) first _ => RoundH P l (first.toList ++ args).toArray h Q
  | _ => False

theorem CallV.mono {P : Program} {fv : Value} {args : List Value} {h : Heap} {Q Q' : Value → Heap → Prop} (x : CallV P fv args h Q) (y : ∀ v h, Q v h → Q' v h) : CallV P fv args h Q' := by
  unfold CallV at x ⊢
  split at x
  · exact CallH.mono x y
  · exact RoundH.mono x y
  · exact x.elim

end Go.Proofs.Ytabidhoaginokaa.Vc
