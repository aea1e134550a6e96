/-
  What asks nothing of the heap; what reads one place; what turns nothing that is there.
-/
import Derived.Test.YtabidhoaginokaaVcH
namespace Go.Proofs.Ytabidhoaginokaa.Vc
open Go
set_option linter.unusedVariables false
set_option linter.unusedSimpArgs false

theorem shape1_again {d : TypeDesc} {v : Value} {K K' : Value → Prop} (h : shape1 d v K) (y : K' v) : shape1 d v K' := by
  cases d <;> simp only [shape1] at h ⊢ <;> first
    | (obtain ⟨a, b, c, e, x⟩ := h; exact ⟨a, b, c, e, e ▸ y⟩)
    | (obtain ⟨a, e, x⟩ := h; exact ⟨a, e, e ▸ y⟩)
    | exact y

theorem fill_det {P : Program} {t : TypeId} : ∀ {parts : List (Nat × Value)} {cs : List Value} {J : List Value → Prop}, fillG P t parts cs J → ∃ c, J c ∧ ∀ J' : List Value → Prop, J' c → fillG P t parts cs J'
  | [], cs, J, x => ⟨cs, x, fun J' y => y⟩
  | (i, v) :: r, cs, J, x => by
    have det : ∀ {e : TypeId} {L : List Value → Prop}, cellsG P e v L → L v.cells.toList ∧ ∀ L' : List Value → Prop, L' v.cells.toList → cellsG P e v L' := by
      intro e L y
      refine ⟨cellsG_out y, fun L' z => ?_⟩
      unfold cellsG at y ⊢
      cases hu : P.underlying e with
      | none =>
        simp only [hu] at y ⊢
        refine Guard.intro y.out.1 ?_
        cases v <;> first | exact z | (have := y.out.1; simp [cellV] at this)
      | some d =>
        simp only [hu] at y ⊢
        cases d <;> simp only at y ⊢ <;> first
          | (refine Guard.intro y.out.1 ?_
             cases v <;> first | exact z | (have := y.out.1; simp [cellV] at this))
          | (cases v <;> simp only at y ⊢ <;> exact z)
    unfold fillG at x
    cases hp : placeOf P t i with
    | none => simp only [hp] at x
    | some q =>
      simp only [hp] at x
      obtain ⟨y, again⟩ := det x
      obtain ⟨hg, y⟩ := y.out
      obtain ⟨c, hc, hj⟩ := fill_det y
      refine ⟨c, hc, fun J' z => ?_⟩
      unfold fillG
      simp only [hp]
      exact again _ (Guard.intro hg (hj J' z))

theorem pure_opH {P : Program} {ρ : Operand → Value} {o : Oper} (hp : pureNow P ρ o = true) {h : Heap} {K : Value → Heap → Prop} {D : Deferred → Heap → Prop} (x : opH P ρ o h K D) :
    ∃ v, K v h ∧ ∀ (h' : Heap) (K' : Value → Heap → Prop) (D' : Deferred → Heap → Prop), K' v h' → opH P ρ o h' K' D' := by
  obtain ⟨dst, op, ty, pos, aft, gd⟩ := o
  cases op
  case move q => exact ⟨_, x, fun h' K' D' k => k⟩
  case assign q => exact ⟨_, x, fun h' K' D' k => k⟩
  case pick c a b =>
    simp only [opH] at x ⊢
    cases hc : ρ c <;> simp only [hc] at x ⊢
    rcases x.out with ⟨e, k⟩ | ⟨e, k⟩
    · exact ⟨_, k, fun h' K' D' k => BIf.pos e k⟩
    · exact ⟨_, k, fun h' K' D' k => BIf.neg e k⟩
  case extract t ix =>
    simp only [opH] at x ⊢
    cases ht : ρ t <;> simp only [ht] at x ⊢
    rename_i vs
    cases hn : nth vs.toList ix <;> simp only [hn] at x ⊢
    exact ⟨_, x, fun h' K' D' k => k⟩
  case makeFunc fn f c => exact ⟨_, x, fun h' K' D' k => k⟩
  case field t q f =>
    simp only [opH] at x ⊢
    split at x
    · rename_i fs cs ht hx
      cases hf : fs[f]? with
      | none => simp only [hf] at x
      | some fl =>
        simp only [hf] at x ⊢
        have g := x.out.1
        have x := x.out.2
        unfold partG at x ⊢
        cases hu : P.underlying fl.type with
        | none => simp only [hu] at x
        | some d => 
          simp only [hu] at x ⊢
          cases d <;> simp only at x ⊢ <;> first
            | exact ⟨_, x, fun h' K' D' k => Guard.intro g k⟩
            | (cases hn : nth cs.toList fl.offset <;> simp only [hn] at x ⊢; exact ⟨_, x, fun h' K' D' k => Guard.intro g k⟩)
    · exact x.elim
  case makeInterface t q =>
    simp only [opH, execOp] at x ⊢
    have y : semH P (Instr.makeInterface t (ρ q)) h K := by
      have := semH_of_bind P _ _ x
      exact this
    unfold Instr.makeInterface at y
    rw [semH_bind'] at y
    cases hu : P.underlying t with
    | none => simp only [underlying, semH_bind', semH_program, hu] at y; exact y.elim
    | some d =>
      rw [semH_underlying hu] at y
      have key : K (.iface t (ρ q)) h ∧ ∀ n, d ≠ .interface n := by
        cases d <;> first | exact ⟨y, by simp⟩ | exact y.elim
      refine ⟨_, key.1, fun h' K' D' k => semN_value ?_⟩
      unfold Instr.makeInterface
      rw [semH_bind', semH_underlying hu]
      cases d <;> first | exact k | exact (key.2 _ rfl).elim
  case build t parts =>
    simp only [opH] at x ⊢
    split at x
    · obtain ⟨c, hc, hj⟩ := fill_det x.out.2
      exact ⟨_, hc, fun h' K' D' k => Guard.intro x.out.1 (hj _ k)⟩
    · obtain ⟨c, hc, hj⟩ := fill_det x.out.2
      exact ⟨_, hc, fun h' K' D' k => Guard.intro x.out.1 (hj _ k)⟩
    · exact x.elim
  case unOp op t q =>
    simp only [pureNow] at hp
    split at hp
    · rename_i b hq
      simp only [opH, execOp, hq] at x ⊢
      exact ⟨_, x, fun h' K' D' k => k⟩
    · cases hp
  case index t q i =>
    simp only [pureNow] at hp
    simp only [opH] at x ⊢
    split at hp
    · rename_i ht hx hi
      simp only [ht, hx, hi] at x ⊢
      obtain ⟨e1, b, e2, k⟩ := x
      exact ⟨_, k, fun h' K' D' k => ⟨e1, b, e2, k⟩⟩
    · cases hp
  case indexAddr t q i =>
    simp only [pureNow] at hp
    simp only [opH] at x ⊢
    split at hp
    · rename_i ht hx hi
      simp only [ht, hx, hi] at x ⊢
      obtain ⟨b, o, e1, e2, e3, k⟩ := x.out.2
      exact ⟨_, k, fun h' K' D' k => Guard.intro x.out.1 ⟨b, o, e1, e2, e3, k⟩⟩
    · cases hp
  case fieldAddr t q f =>
    simp only [opH] at x ⊢
    split at x
    · rename_i fs a ht hx
      cases hf : fs[f]? with
      | none => simp only [hf] at x
      | some fl => simp only [hf] at x ⊢; exact ⟨_, x.out.2, fun h' K' D' k => Guard.intro x.out.1 k⟩
    · exact x.elim
  case nilCheck q =>
    simp only [pureNow] at hp
    simp only [opH] at x ⊢
    split at x
    · obtain ⟨b, o, e, k⟩ := x
      exact ⟨_, k, fun h' K' D' k => ⟨b, o, e, k⟩⟩
    · exact ⟨_, x, fun h' K' D' k => k⟩
    · exact ⟨_, x, fun h' K' D' k => k⟩
    · exact x.elim
  case binOp op t a b t' =>
    have he : eqLeaf P op t = false := by
      cases he : eqLeaf P op t with
      | false => rfl
      | true => simp only [pureNow, he] at hp; cases hp
    have main : ∀ (k k' : IntKind) (m n : Int), ρ a = .int k m → ρ b = .int k' n → op ≠ .quo → op ≠ .rem → op ≠ .shl → op ≠ .shr →
        ∃ v, K v h ∧ ∀ (h' : Heap) (K' : Value → Heap → Prop) (D' : Deferred → Heap → Prop), K' v h' → opH P ρ ⟨dst, .binOp op t a b t', ty, pos, aft, gd⟩ h' K' D' := by
      intro k k' m n hx hy h1 h2 h3 h4
      by_cases hk : k = k'
      · subst hk
        cases op <;> first
          | exact absurd rfl h1 | exact absurd rfl h2 | exact absurd rfl h3 | exact absurd rfl h4
          | (simp only [opH, he, execOp, hx, hy, binOp, ne_eq, not_true_eq_false, if_false] at x ⊢
             exact ⟨_, x, fun h' K' D' k => k⟩)
      · exfalso
        cases op <;> first
          | exact absurd rfl h1 | exact absurd rfl h2 | exact absurd rfl h3 | exact absurd rfl h4
          | (simp only [opH, he, execOp, hx, hy, binOp, ne_eq, hk, not_false_eq_true, if_true] at x
             exact x)
    simp only [pureNow, he] at hp
    split at hp
    · rename_i k m k' n hx hy
      refine main k k' m n hx hy ?_ ?_ ?_ ?_ <;> (rintro rfl; simp at hp)
    · cases hp
  case call c =>
    obtain ⟨callee, args, ats⟩ := c
    simp only [pureNow] at hp
    split at hp
    · split at hp
      · rename_i q n c t hr ht
        simp only [opH, hr, ht] at x ⊢
        exact ⟨_, x, fun h' K' D' k => k⟩
      · rename_i s hr ht
        simp only [opH, hr, ht] at x ⊢
        exact ⟨_, x, fun h' K' D' k => k⟩
      · cases hp
    · cases hp
  all_goals simp [pureNow] at hp

/-! ### later heaps -/
/-- What is there stands: blocks may have come. -/
def Ext (h h' : Heap) : Prop := h.size ≤ h'.size ∧ ∀ b, b < h.size → h'[b]? = h[b]?
theorem Ext.refl (h : Heap) : Ext h h := ⟨Nat.le_refl _, fun _ _ => rfl⟩
theorem Ext.trans {a b c : Heap} (x : Ext a b) (y : Ext b c) : Ext a c := ⟨Nat.le_trans x.1 y.1, fun i hi => (y.2 i (Nat.lt_of_lt_of_le hi x.1)).trans (x.2 i hi)⟩
theorem Ext.push (h : Heap) (o : Obj) : Ext h (h.push o) := ⟨by simp, fun b hb => by simp [Array.getElem?_push, Nat.ne_of_lt hb]⟩
theorem Ext.cell {h h' : Heap} (x : Ext h h') {a : Addr} {v : Value} (hc : cellH h a = some v) : cellH h' a = some v := by
  have hb : a.block < h.size := by
    unfold cellH at hc
    rcases Nat.lt_or_ge a.block h.size with y | y
    · exact y
    · simp [Array.getElem?_eq_none y] at hc
  unfold cellH at hc ⊢
  rw [x.2 _ hb]; exact hc

theorem loadL_det {h : Heap} {b o : Nat} : ∀ {ds : List TypeDesc} {i : Nat} {acc : List Value} {K : List Value → Prop}, loadL h b o ds i acc K →
    ∃ l, K l ∧ ∀ (h' : Heap) (K' : List Value → Prop), Ext h h' → K' l → loadL h' b o ds i acc K'
  | [], i, acc, K, x => ⟨_, x, fun h' K' _ y => y⟩
  | d :: ds, i, acc, K, x => by
    cases d <;> simp only [loadL] at x ⊢ <;> first
      | (obtain ⟨a1, a2, a3, e, x⟩ := x; obtain ⟨l, hl, again⟩ := loadL_det x; exact ⟨l, hl, fun h' K' he y => ⟨a1, a2, a3, he.cell e, again h' K' he y⟩⟩)
      | (obtain ⟨a1, e, x⟩ := x; obtain ⟨l, hl, again⟩ := loadL_det x; exact ⟨l, hl, fun h' K' he y => ⟨a1, he.cell e, again h' K' he y⟩⟩)
theorem load_opH {P : Program} {ρ : Operand → Value} {o : Oper} (hp : isLoad o = true) {h : Heap} {K : Value → Heap → Prop} {D : Deferred → Heap → Prop} (x : opH P ρ o h K D) :
    ∃ v, K v h ∧ ∀ (h' : Heap) (K' : Value → Heap → Prop) (D' : Deferred → Heap → Prop), Ext h h' → K' v h' → opH P ρ o h' K' D' := by
  obtain ⟨dst, op, ty, pos, aft, gd⟩ := o
  cases op
  case load t a =>
    simp only [opH] at x ⊢
    split at x
    · obtain ⟨l, hl, again⟩ := loadL_det x.out.2
      exact ⟨_, hl, fun h' K' D' he y => Guard.intro x.out.1 (again h' _ he y)⟩
    · obtain ⟨l, hl, again⟩ := loadL_det x.out.2
      exact ⟨_, hl, fun h' K' D' he y => Guard.intro x.out.1 (again h' _ he y)⟩
    · obtain ⟨l, hl, again⟩ := loadL_det x.out.2
      split at hl
      · exact ⟨_, hl, fun h' K' D' he y => Guard.intro x.out.1 (again h' _ he y)⟩
      · exact hl.elim
    · exact x.elim
  all_goals simp [isLoad] at hp

/-- A term that stores nothing. -/
def NW {α : Type} : Sem α → Prop
  | .pure _ => True
  | .load _ _ k => ∀ v, NW (k v)
  | .store _ _ _ _ => False
  | .new _ k => ∀ n, NW (k n)
  | .shape _ k => ∀ s, NW (k s)
  | .freeze _ _ _ => False
  | .frozen _ k => ∀ b, NW (k b)
  | .getObj _ k => ∀ o, NW (k o)
  | .setObj _ _ _ => False
  | .choose _ k => ∀ n, NW (k n)
  | .sys _ _ => True
  | .program k => ∀ p, NW (k p)
  | .mark _ k => NW k
  | .halt _ => True
theorem NW.grow {P : Program} {α : Type} {s : Sem α} : NW s → ∀ {h0 h : Heap} {K : α → Heap → Prop}, Ext h0 h → semH P s h K → semH P s h fun a h' => K a h' ∧ Ext h0 h' := by
  induction s with
  | pure a => intro _ h0 h K e x; exact ⟨x, e⟩
  | load m a k ih => rintro n h0 h K e ⟨v, hv, x⟩; exact ⟨v, hv, ih v (n v) e x⟩
  | store m a v k ih => intro n; exact n.elim
  | new o k ih => intro n h0 h K e x; exact ih _ (n _) (e.trans (Ext.push h o)) x
  | shape r k ih => intro n h0 h K e x; exact ih _ (n _) e x
  | freeze a n k ih => intro n; exact n.elim
  | frozen a k ih => intro n h0 h K e x; exact ih _ (n _) e x
  | getObj r k ih => rintro n h0 h K e ⟨o, ho, hn, x⟩; exact ⟨o, ho, hn, ih o (n o) e x⟩
  | setObj r o k ih => intro n; exact n.elim
  | choose q k ih =>
    intro n h0 h K e x
    simp only [semH] at x ⊢
    split <;> rename_i hq <;> rw [hq] at x
    · exact ih _ (n _) e x
    · exact fun t => ih _ (n _) e (x t)
  | sys c k ih => intro n h0 h K e x; exact x.elim
  | program k ih => intro n h0 h K e x; exact ih _ (n _) e x
  | mark m k ih => intro n h0 h K e x; exact ih n e x
  | halt h => intro n h0 h K e x; exact x.elim
theorem NW.bind {α β : Type} {s : Sem α} {f : α → Sem β} : NW s → (∀ a, NW (f a)) → NW (s >>= f) := by
  show NW s → (∀ a, NW (f a)) → NW (s.bind f)
  induction s with
  | pure a => intro _ y; exact y a
  | load m a k ih => intro x y v; exact ih v (x v) y
  | store m a v k ih => intro x; exact x.elim
  | new o k ih => intro x y n; exact ih n (x n) y
  | shape r k ih => intro x y n; exact ih n (x n) y
  | freeze a n k ih => intro x; exact x.elim
  | frozen a k ih => intro x y n; exact ih n (x n) y
  | getObj r k ih => intro x y n; exact ih n (x n) y
  | setObj r o k ih => intro x; exact x.elim
  | choose q k ih => intro x y n; exact ih n (x n) y
  | sys c k ih => intro x y; trivial
  | program k ih => intro x y n; exact ih n (x n) y
  | mark m k ih => intro x y; exact ih x y
  | halt h => intro x y; trivial
theorem NW.und (t : TypeId) : NW (underlying t) := by
  unfold underlying
  refine NW.bind (fun p => trivial) fun p => ?_
  split <;> trivial
theorem NW.info (t : TypeId) : NW (typeInfo t) := by
  unfold typeInfo
  refine NW.bind (fun p => trivial) fun p => ?_
  split <;> trivial
theorem NW.sizeOf (t : TypeId) : NW (sizeOf t) := NW.bind (NW.info t) fun _ => trivial
theorem NW.elemOf (t : TypeId) : NW (elemOf t) := by
  unfold Go.elemOf
  refine NW.bind (NW.und t) fun d => ?_
  split <;> trivial
theorem NW.rtp {α : Type} (e : RuntimeError) : NW (runtimePanic e : Sem α) := by
  unfold runtimePanic
  refine NW.bind (fun p => trivial) fun p => ?_
  simp only
  split
  all_goals first
    | trivial
    | exact NW.bind (NW.elemOf _) fun t => NW.bind (fun n => trivial) fun r => trivial
theorem NW.bounds {α : Type} (k : IntKind) (x y : Int) (c : BoundsCode) : NW (boundsPanic k x y c : Sem α) := by
  unfold boundsPanic
  dsimp only
  split
  · exact NW.bind (NW.bind (s := choose _) (fun n => trivial) fun n => trivial) fun b => NW.rtp _
  · exact NW.bind (s := pure _) trivial fun b => NW.rtp _
theorem NW.asInt (v : Value) : NW (asIntOf v) := by unfold asIntOf; split <;> trivial
theorem NW.isAgg (t : TypeId) : NW (isAgg t) := NW.bind (NW.und t) fun d => by split <;> trivial
theorem NW.part (t : TypeId) (cs : Array Value) (off : Nat) : NW (part t cs off) := by
  unfold Go.part
  refine NW.bind (NW.isAgg t) fun b => ?_
  split
  · exact NW.bind (NW.sizeOf t) fun n => trivial
  · split <;> trivial
theorem NW.indexS (t : TypeId) (x i : Value) : NW (Instr.index t x i) := by
  unfold Instr.index
  refine NW.bind (NW.asInt i) fun ki => ?_
  obtain ⟨k, i⟩ := ki
  refine NW.bind (NW.und t) fun d => ?_
  split
  · split
    · exact NW.bind (NW.sizeOf _) fun n => NW.part _ _ _
    · exact NW.bounds _ _ _ _
  · split
    · trivial
    · exact NW.bounds _ _ _ _
  · trivial
theorem NW.sure (v : Value) : NW (Instr.sureAddr v) := by unfold Instr.sureAddr; split <;> trivial
theorem NW.ite {α : Type} {c : Prop} [Decidable c] {s s' : Sem α} (x : NW s) (y : NW s') : NW (if c then s else s') := by split; exact x; exact y
theorem NW.indexAt (t : TypeId) (x i : Value) : NW (Instr.indexAt t x i) := by
  unfold Instr.indexAt
  refine NW.bind (NW.asInt i) fun ki => ?_
  obtain ⟨k, i⟩ := ki
  dsimp only
  refine NW.bind (NW.und t) fun d => ?_
  split
  · refine NW.bind (NW.sure _) fun a => NW.bind (s := pure _) trivial fun q => ?_
    obtain ⟨base, len, elem⟩ := q
    dsimp only
    refine NW.bind (NW.und t) fun d => ?_
    cases base with
    | none => exact NW.bounds _ _ _ _
    | some a =>
      dsimp only
      split
      · exact NW.bind (NW.sizeOf _) fun n => trivial
      · exact NW.ite (s := unsupported _) trivial (NW.bounds _ _ _ _)
  · refine NW.bind (s := pure _) trivial fun q => ?_
    obtain ⟨base, len, elem⟩ := q
    dsimp only
    refine NW.bind (NW.und t) fun d => ?_
    cases base with
    | none => exact NW.bounds _ _ _ _
    | some a =>
      dsimp only
      split
      · exact NW.bind (NW.sizeOf _) fun n => trivial
      · exact NW.ite (s := unsupported _) trivial (NW.bounds _ _ _ _)
  · refine NW.bind (s := stuck _) trivial fun q => ?_
    obtain ⟨base, len, elem⟩ := q
    dsimp only
    refine NW.bind (NW.und t) fun d => ?_
    cases base with
    | none => exact NW.bounds _ _ _ _
    | some a =>
      dsimp only
      split
      · exact NW.bind (NW.sizeOf _) fun n => trivial
      · exact NW.ite (s := unsupported _) trivial (NW.bounds _ _ _ _)
theorem NW.bound (x : Value) (y : Nat) (c : BoundsCode) : NW (Instr.sliceBound x y c) := by
  unfold Instr.sliceBound
  refine NW.bind (NW.asInt x) fun ki => ?_
  obtain ⟨k, i⟩ := ki
  simp only
  split
  · trivial
  · exact NW.bounds _ _ _ _
theorem NW.boundsS (b : Bool) (n c : Nat) (lo hi mx : Option Value) : NW (Instr.sliceBounds b n c lo hi mx) := by
  have last : ∀ m h : Nat, NW (do
      let l ← match lo with
        | some v => Instr.sliceBound v h (if mx.isSome then .slice3C else .sliceB)
        | none => pure 0
      pure (l, h, m) : Sem (Nat × Nat × Nat)) := by
    intro m h
    cases lo with
    | none => trivial
    | some v => exact NW.bind (f := fun l => pure (l, h, m)) (NW.bound _ _ _) fun l => trivial
  unfold Instr.sliceBounds
  cases mx with
  | none =>
    refine NW.bind (s := pure _) trivial fun m => ?_
    cases hi with
    | none => exact NW.bind (s := pure _) trivial fun h => last m h
    | some v => exact NW.bind (NW.bound _ _ _) fun h => last m h
  | some v =>
    refine NW.bind (NW.bound _ _ _) fun m => ?_
    cases hi with
    | none => exact NW.bind (s := stuck _) trivial fun h => last m h
    | some v => exact NW.bind (NW.bound _ _ _) fun h => last m h
theorem NW.asAddr (v : Value) : NW (asAddr v) := by
  unfold Go.asAddr
  split
  · trivial
  · exact NW.rtp _
  · trivial
theorem NW.sliceS (t : TypeId) (x : Value) (lo hi mx : Option Value) : NW (Instr.slice t x lo hi mx) := by
  unfold Instr.slice
  refine NW.bind (NW.und t) fun d => ?_
  split
  · split
    · exact NW.bind (s := stuck _) trivial fun _ => NW.bind (NW.boundsS _ _ _ _ _ _) fun q => trivial
    · exact NW.bind (NW.boundsS _ _ _ _ _ _) fun q => trivial
  · exact NW.bind (NW.boundsS _ _ _ _ _ _) fun q => NW.bind (NW.sizeOf _) fun n => trivial
  · refine NW.bind (NW.asAddr _) fun a => NW.bind (NW.und _) fun d => ?_
    split
    · exact NW.bind (NW.boundsS _ _ _ _ _ _) fun q => NW.bind (NW.sizeOf _) fun n => trivial
    · trivial
  · trivial
theorem NW.sliceAtS (t : TypeId) (x : Value) (lo hi mx : Option Value) : NW (Instr.sliceAt t x lo hi mx) := by
  unfold Instr.sliceAt
  refine NW.bind (NW.und t) fun d => ?_
  split
  · exact NW.bind (NW.sure _) fun a => NW.bind (NW.boundsS _ _ _ _ _ _) fun q => NW.bind (NW.sizeOf _) fun n => trivial
  · exact NW.sliceS _ _ _ _ _
theorem NW.lenS (ts : Array TypeId) (t : TypeId) (xs : Array Value) : NW (Builtin.len_ ts t xs) := by
  unfold Builtin.len_
  split
  · refine NW.bind (NW.und _) fun d => ?_
    split
    · trivial
    · trivial
    · refine NW.bind (NW.und _) fun d => ?_
      split <;> trivial
    · trivial
    · trivial
    · trivial
    · refine NW.bind (s := getObj _) (fun o => trivial) fun o => ?_
      split <;> trivial
    · refine NW.bind (s := getObj _) (fun o => trivial) fun o => ?_
      split <;> trivial
    · trivial
  · trivial
theorem NW.makeI (t : TypeId) (x : Value) : NW (Instr.makeInterface t x) := by
  unfold Instr.makeInterface
  refine NW.bind (NW.und _) fun d => ?_
  split <;> trivial
theorem NW.eqG {op : BinOp} (h : op ≠ .eql) (h' : op ≠ .neq) (t : TypeId) (x y : Operand) (a b : Value) : NW (eqGuard op t x y a b) := by
  unfold eqGuard
  cases op <;> first | trivial | exact absurd rfl h | exact absurd rfl h'
theorem NW.binS {op : BinOp} (h : op ≠ .eql) (h' : op ≠ .neq) (t : TypeId) (a b : ByteArray) : NW (binOp op t (.string a) (.string b)) := by
  cases op <;> first | exact absurd rfl h | exact absurd rfl h' | (simp only [binOp, Op.stringOp]; first | trivial | (split <;> trivial))
theorem NW.binB {op : BinOp} (h : op ≠ .eql) (h' : op ≠ .neq) (t : TypeId) (a b : Bool) : NW (binOp op t (.bool a) (.bool b)) := by
  cases op <;> first | exact absurd rfl h | exact absurd rfl h' | trivial
theorem NW.un (op : UnOp) (x : Value) : NW (Op.unary op x) := by
  unfold Op.unary
  split <;> trivial
end Go.Proofs.Ytabidhoaginokaa.Vc
