/-
  EVERY ORDER of a region that draws comes to what 'explore' says.
-/
import Derived.Test.YtabidhoaginokaaVcI
namespace Go.Proofs.Ytabidhoaginokaa.Vc
open Go
set_option linter.unusedVariables false
set_option linter.unusedSimpArgs false

theorem semN_grow {P : Program} {s : Sem Value} (n : NW s) {h : Heap} {K : Value → Heap → Prop} {D : Deferred → Heap → Prop} (x : semN P (do pure (.value (← s))) h K D) :
    semN P (do pure (.value (← s))) h (fun v h' => K v h' ∧ Ext h h') (fun d h' => D d h' ∧ Ext h h') := by
  have x : semH P s h K := semH_of_bind P _ _ x
  exact semN_value (n.grow (Ext.refl h) x)
theorem leaf_grow {P : Program} {s : Sem Value} (n : NW s) {t : TypeId} {h : Heap} {K : Value → Heap → Prop} (x : semH P s h fun v h => shapeP P t v fun v => K v h) :
    semH P s h fun v h' => shapeP P t v fun v => K v h' ∧ Ext h h' :=
  semH_mono P (n.grow (Ext.refl h) x) fun v h' y => shapeP_mono y.1 fun v k => ⟨k, y.2⟩

theorem grow_opH {P : Program} {ρ : Operand → Value} {o : Oper} (hp : growKind o = true) {h : Heap} {K : Value → Heap → Prop} {D : Deferred → Heap → Prop} (x : opH P ρ o h K D) :
    opH P ρ o h (fun v h' => K v h' ∧ Ext h h') (fun d h' => D d h' ∧ Ext h h') := by
  by_cases hpu : pureNow P ρ o = true
  · obtain ⟨v, k, again⟩ := pure_opH hpu x
    exact again _ _ _ ⟨k, Ext.refl h⟩
  by_cases hl : isLoad o = true
  · obtain ⟨v, k, again⟩ := load_opH hl x
    exact again _ _ _ (Ext.refl h) ⟨k, Ext.refl h⟩
  obtain ⟨dst, op, ty, pos, aft, gd⟩ := o
  cases op
  case alloc t =>
    simp only [opH] at x ⊢
    split at x
    · exact fun h' e => ⟨x h' e, e ▸ Ext.push h _⟩
    · exact x.elim
  case box t q =>
    simp only [opH] at x ⊢
    exact cellsG_mono x fun l k h' e => ⟨k h' e, e ▸ Ext.push h _⟩
  case makeMap t r =>
    cases r with
    | none => exact fun h' e => ⟨x h' e, e ▸ Ext.push h _⟩
    | some r => simp [growKind] at hp
  case buildSlice t len parts =>
    simp only [opH] at x ⊢
    split at x
    · rename_i e ht
      cases hz : zeroL P e with
      | none => simp only [hz] at x
      | some q => simp only [hz] at x ⊢; exact Guard.intro x.out.1 (fillG_mono x.out.2 fun l k h' e => ⟨k h' e, e ▸ Ext.push h _⟩)
    · exact x.elim
  case nilCheck q =>
    simp only [opH] at x ⊢
    split at x
    · obtain ⟨b, o, e, k⟩ := x; exact ⟨b, o, e, k, Ext.refl h⟩
    · exact ⟨x, Ext.refl h⟩
    · exact ⟨x, Ext.refl h⟩
    · exact x.elim
  case indexAddr t q i =>
    simp only [opH] at x ⊢
    split at x
    · rename_i ht hx hi
      simp only [pureNow, ht, hx, hi] at hpu
      exact absurd trivial hpu
    · exact semN_grow (NW.indexAt _ _ _) x
  case index t q i =>
    simp only [opH] at x ⊢
    split at x
    · rename_i ht hx hi
      simp only [pureNow, ht, hx, hi] at hpu
      exact absurd trivial hpu
    · exact leaf_grow (NW.indexS _ _ _) x
  case slice t q lo hi mx => exact leaf_grow (NW.sliceAtS _ _ _ _ _) x
  case unOp op t q => exact semN_grow (NW.un _ _) x
  case binOp op t a b t' =>
    have hne : op ≠ .eql ∧ op ≠ .neq := by
      constructor <;> (rintro rfl; simp [growKind] at hp)
    have he : eqLeaf P op t = false := by
      unfold eqLeaf; split
      · exact absurd rfl hne.1
      · exact absurd rfl hne.2
      · rfl
    simp only [opH, he] at x ⊢
    split at x
    · rename_i k m k' n hx hy
      split at x
      · exact Guard.intro x.out.1 ⟨x.out.2.1, x.out.2.2, Ext.refl h⟩
      · exact Guard.intro x.out.1 ⟨x.out.2.1, x.out.2.2, Ext.refl h⟩
      · exact ⟨x.1, x.2, Ext.refl h⟩
      · exact ⟨x.1, x.2, Ext.refl h⟩
      · exfalso
        simp only [pureNow, he, hx, hy] at hpu
        cases op <;> simp_all
    · rename_i u v hx hy
      split at x
      · refine leaf_grow ?_ x
        rw [hx, hy]; exact NW.binB (by simp) (by simp) _ _ _
      · refine semN_grow (NW.bind (NW.eqG hne.1 hne.2 _ _ _ _ _) fun _ => ?_) x
        rw [hx, hy]; exact NW.binB hne.1 hne.2 _ _ _
    · rename_i u v hx hy
      split at x
      · refine leaf_grow ?_ x
        rw [hx, hy]; exact NW.binS (by simp) (by simp) _ _ _
      · refine semN_grow (NW.bind (NW.eqG hne.1 hne.2 _ _ _ _ _) fun _ => ?_) x
        rw [hx, hy]; exact NW.binS hne.1 hne.2 _ _ _
    · split at x
      · exact absurd rfl hne.1
      · exact absurd rfl hne.2
      · exact x.elim
  case call c =>
    obtain ⟨callee, args, ats⟩ := c
    simp only [growKind] at hp
    split at hp
    · simp only [opH] at x ⊢
      split at x
      · exact leaf_grow (s := builtinG .len ats ty _) (NW.lenS ats ty _) x
      · exact ⟨x, Ext.refl h⟩
      · exact ⟨x, Ext.refl h⟩
      · exact semN_grow (NW.lenS _ _ _) x
    · cases hp
  all_goals first
    | (simp [growKind] at hp; done)
    | (exact absurd rfl hpu)
    | (exact absurd rfl hl)

/-! ### changing places -/
def agreeOn (o : Oper) (fr fr' : Fr) : Prop := ∀ x ∈ o.op.operands.toList, getF fr x = getF fr' x
theorem agree_avail {fr fr' : Fr} : ∀ {l : List Operand}, (∀ x ∈ l, getF fr x = getF fr' x) → availF fr l = availF fr' l
  | [], _ => rfl
  | x :: r, h => by
    unfold availF
    rw [h x (by simp), agree_avail fun y hy => h y (by simp [hy])]
theorem agree_rho {o : Oper} {fr fr' : Fr} (h : agreeOn o fr fr') : ∀ x ∈ o.op.operands.toList, rhoF fr x = rhoF fr' x := fun x hx => by unfold rhoF; rw [h x hx]
theorem agreeOn.symm {o : Oper} {fr fr' : Fr} (h : agreeOn o fr fr') : agreeOn o fr' fr := fun x hx => (h x hx).symm
theorem nthF_set (fr : Fr) (d t : Nat) (v : Option Value) (h : d ≠ t) : nthF (fr.set d v) t = nthF fr t := by
  unfold nthF; rw [nth_set]; rw [if_neg (fun x => h x.1)]
theorem getF_put {fr : Fr} {dst : Option Nat} {v : Value} {x : Operand} (h : ∀ d, dst = some d → x ≠ .tmp d) : getF (putF fr dst v) x = getF fr x := by
  cases dst with
  | none => rfl
  | some d =>
    cases x with
    | tmp t => exact nthF_set fr d t _ fun e => h d rfl (by rw [e])
    | _ => rfl

section
variable {P : Program} {ops : List Oper}

theorem set_same {fr : Fr} {d : Nat} {v : Value} (h : nthF fr d = some v) : fr.set d (some v) = fr := by
  have h := nthF_some h
  apply List.ext_getElem?
  intro i
  rw [← nth_eq, ← nth_eq, nth_set]
  split
  · rename_i e; rw [← e.1, h]
  · rfl
theorem opStep_iff {o : Oper} {fr : Fr} {ds : List Deferred} {h : Heap} {K : Fr → List Deferred → Heap → Prop} :
    opStep P ops o fr ds h K ↔ (wantF ops o fr = some true ∧ opRun P o fr ds h K) ∨ (wantF ops o fr = some false ∧ opSkip o fr ds h K) := by
  unfold opStep wantF
  cases hg : o.guard with
  | none => simp
  | some q =>
    obtain ⟨j, want⟩ := q
    simp only
    cases hs : slotF ops j with
    | none => simp
    | some d =>
      simp only
      cases hn : nthF fr d with
      | none => simp
      | some v =>
        cases v <;> simp only [reduceCtorEq, false_and, or_self, Option.some.injEq, Bool.false_eq_true, true_and, false_or]
        rename_i b
        cases b <;> cases want <;> simp [BIf, set_same hn]

theorem reads_guard {o y : Oper} {d : Nat} (h : readsSlot ops y d = false) (j : Nat) (want : Bool) (hg : y.guard = some (j, want)) : slotF ops j ≠ some d := by
  unfold readsSlot at h
  simp only [hg, Bool.or_eq_false_iff] at h
  unfold slotF
  have h2 := h.2
  split at h2
  · rename_i g hgj
    intro e
    first
      | (rw [hgj] at e; simp only at e; simp [e] at h2)
      | (simp [e] at h2)
  · cases h2
theorem reads_oper {y : Oper} {d : Nat} (h : readsSlot ops y d = false) {x : Operand} (hx : x ∈ y.op.operands.toList) : x ≠ .tmp d := by
  unfold readsSlot at h
  simp only [Bool.or_eq_false_iff] at h
  rintro rfl
  have := List.any_eq_false.1 h.1 _ hx
  simp at this
/-- A slot that y doesn't read may hold what it will. -/
theorem agree_put {y : Oper} {fr : Fr} {dst : Option Nat} {v : Value} (h : ∀ d, dst = some d → readsSlot ops y d = false) : agreeOn y (putF fr dst v) fr :=
  fun x hx => getF_put fun d hd => reads_oper (h d hd) hx
theorem want_put {y : Oper} {fr : Fr} {dst : Option Nat} {v : Value} (h : ∀ d, dst = some d → readsSlot ops y d = false) : wantF ops y (putF fr dst v) = wantF ops y fr := by
  unfold wantF
  cases hg : y.guard with
  | none => rfl
  | some q =>
    obtain ⟨j, want⟩ := q
    simp only
    cases hs : slotF ops j with
    | none => rfl
    | some d =>
      simp only
      have : nthF (putF fr dst v) d = nthF fr d := by
        cases dst with
        | none => rfl
        | some d' =>
          refine nthF_set _ _ _ _ ?_
          rintro rfl
          exact reads_guard (o := y) (h d' rfl) j want hg hs
      rw [this]

theorem apart_l {x y : Oper} (h : apartSlots ops x y = true) : ∀ d, x.dst = some d → readsSlot ops y d = false := by
  intro d hd
  simp only [apartSlots, hd, Bool.and_eq_true, Bool.not_eq_true'] at h
  exact h.1.1
theorem apart_r {x y : Oper} (h : apartSlots ops x y = true) : ∀ d, y.dst = some d → readsSlot ops x d = false := by
  intro d hd
  simp only [apartSlots, hd, Bool.and_eq_true, Bool.not_eq_true'] at h
  exact h.2
theorem apart_ne {x y : Oper} (h : apartSlots ops x y = true) : ∀ d e, x.dst = some d → y.dst = some e → d ≠ e := by
  rintro d e hd he rfl
  simp [apartSlots, hd, he] at h
theorem put_comm {x y : Oper} (h : apartSlots ops x y = true) (fr : Fr) (v u : Value) : putF (putF fr x.dst v) y.dst u = putF (putF fr y.dst u) x.dst v := by
  cases hx : x.dst with
  | none => cases y.dst <;> rfl
  | some d =>
    cases hy : y.dst with
    | none => rfl
    | some e => simp only [putF]; exact List.set_comm _ _ (apart_ne h d e hx hy)

/-- What an operation's step says of the frame and the heap behind it. -/
theorem opRun_frame {o : Oper} {fr : Fr} {ds : List Deferred} {h : Heap} {K : Fr → List Deferred → Heap → Prop} (x : opRun P o fr ds h K) : opRun P o fr ds h fun fr' ds' h' => K fr' ds' h' ∧ ∃ v, fr' = putF fr o.dst v :=
  Guard.intro x.out.1 (opH_mono x.out.2 (fun v h k => ⟨k, v, rfl⟩) (fun d h k => ⟨k, _, rfl⟩))
theorem opRun_agree {o : Oper} {fr fr' : Fr} (ha : agreeOn o fr fr') {ds ds' : List Deferred} {h : Heap} {K K' : Fr → List Deferred → Heap → Prop} (x : opRun P o fr ds h K)
    (k1 : ∀ v h', K (putF fr o.dst v) ds h' → K' (putF fr' o.dst v) ds' h') (k2 : ∀ d h', K (putF fr o.dst undef) (d :: ds) h' → K' (putF fr' o.dst undef) (d :: ds') h') : opRun P o fr' ds' h K' := by
  obtain ⟨g, x⟩ := x.out
  refine Guard.intro (by rw [← agree_avail ha]; exact g) ?_
  exact opH_congr (agree_rho ha) (opH_mono x k1 k2)
theorem pureNow_congr {ρ ρ' : Operand → Value} {o : Oper} (h : ∀ x ∈ o.op.operands.toList, ρ x = ρ' x) : pureNow P ρ o = pureNow P ρ' o := by
  obtain ⟨dst, op, ty, pos, aft, gd⟩ := o
  cases op <;> simp only [Op.operands] at h
  case call c =>
    obtain ⟨callee, args, ats⟩ := c
    simp only [Call.operands, Array.toList_append, List.mem_append] at h
    have ha : args.toList.map ρ = args.toList.map ρ' := List.map_congr_left fun x hx => h x (.inr hx)
    simp only [pureNow, ha]
  all_goals first
    | rfl
    | (simp only [List.mem_cons, List.not_mem_nil, or_false, forall_eq_or_imp, forall_eq] at h; simp only [pureNow, h])

/-- May x be done ahead of y? -/
def mayLead (P : Program) (ops : List Oper) (x y : Oper) (fr : Fr) : Prop := apartSlots ops x y = true ∧ ((pureNow P (rhoF fr) x = true ∨ (isLoad x = true ∧ growKind y = true)) ∨ skipNow ops x fr = true)
theorem skip_want {x : Oper} {fr : Fr} (h : skipNow ops x fr = true) : wantF ops x fr = some false := by
  unfold skipNow at h
  split at h
  · rename_i b hb
    rw [hb]; simpa using h
  · cases h

theorem opStep_swap {x y : Oper} {fr : Fr} (hm : mayLead P ops x y fr) {ds : List Deferred} {h : Heap} {K : Fr → List Deferred → Heap → Prop}
    (z : opStep P ops x fr ds h fun fr1 ds1 h1 => opStep P ops y fr1 ds1 h1 K) : opStep P ops y fr ds h fun fr2 ds2 h2 => opStep P ops x fr2 ds2 h2 K := by
  obtain ⟨hap, hm⟩ := hm
  have agy : ∀ v, agreeOn y (putF fr x.dst v) fr := fun v => agree_put (apart_l hap)
  have agx : ∀ v, agreeOn x (putF fr y.dst v) fr := fun v => agree_put (apart_r hap)
  have wy : ∀ v, wantF ops y (putF fr x.dst v) = wantF ops y fr := fun v => want_put (apart_l hap)
  have wx : ∀ v, wantF ops x (putF fr y.dst v) = wantF ops x fr := fun v => want_put (apart_r hap)
  rw [opStep_iff] at z
  rcases z with ⟨hw, z⟩ | ⟨hw, z⟩
  · -- x runs
    have hm := hm.resolve_right fun hs => by rw [skip_want hs] at hw; cases hw
    obtain ⟨hav, z⟩ := z.out
    have res : ∃ v, opStep P ops y (putF fr x.dst v) ds h K ∧ ∀ (fr' : Fr) (ds' : List Deferred) (h' : Heap), agreeOn x fr' fr → (pureNow P (rhoF fr) x = true ∨ Ext h h') → K (putF fr' x.dst v) ds' h' → opRun P x fr' ds' h' K := by
      by_cases hpu : pureNow P (rhoF fr) x = true
      · obtain ⟨v, k, again⟩ := pure_opH hpu z
        exact ⟨v, k, fun fr' ds' h' ha _ kk => Guard.intro (by rw [agree_avail ha]; exact hav) (opH_congr (agree_rho ha.symm) (again h' _ _ kk))⟩
      · obtain ⟨v, k, again⟩ := load_opH (hm.resolve_left hpu).1 z
        exact ⟨v, k, fun fr' ds' h' ha he kk => Guard.intro (by rw [agree_avail ha]; exact hav) (opH_congr (agree_rho ha.symm) (again h' _ _ (he.resolve_left hpu) kk))⟩
    obtain ⟨v, z, again⟩ := res
    rw [opStep_iff] at z
    rw [opStep_iff, ← wy v]
    rcases z with ⟨hwy, z⟩ | ⟨hwy, z⟩
    · refine .inl ⟨hwy, ?_⟩
      -- y runs: what it leaves of the heap
      have z' : opRun P y (putF fr x.dst v) ds h fun f d h' => K f d h' ∧ (pureNow P (rhoF fr) x = true ∨ Ext h h') := by
        by_cases hpu : pureNow P (rhoF fr) x = true
        · exact opRun_mono z fun _ _ _ k => ⟨k, .inl hpu⟩
        · exact Guard.intro z.out.1 (opH_mono (grow_opH (hm.resolve_left hpu).2 z.out.2) (fun v h k => ⟨k.1, .inr k.2⟩) (fun d h k => ⟨k.1, .inr k.2⟩))
      refine opRun_agree (agy v) z' (fun u h' k => ?_) (fun d h' k => ?_)
      · rw [opStep_iff]
        refine .inl ⟨by rw [wx]; exact hw, again _ _ _ (agx u) k.2 ?_⟩
        rw [← put_comm hap]; exact k.1
      · rw [opStep_iff]
        refine .inl ⟨by rw [wx]; exact hw, again _ _ _ (agx _) k.2 ?_⟩
        rw [← put_comm hap]; exact k.1
    · refine .inr ⟨hwy, ?_⟩
      show opStep P ops x (putF fr y.dst undef) ds h K
      rw [opStep_iff]
      refine .inl ⟨by rw [wx]; exact hw, again _ _ _ (agx _) (.inr (Ext.refl h)) ?_⟩
      rw [← put_comm hap]; exact z
  · -- x is passed over
    have z : opStep P ops y (putF fr x.dst undef) ds h K := z
    rw [opStep_iff] at z
    rw [opStep_iff, ← wy undef]
    rcases z with ⟨hwy, z⟩ | ⟨hwy, z⟩
    · refine .inl ⟨hwy, opRun_agree (agy undef) z (fun u h' k => ?_) (fun d h' k => ?_)⟩
      · rw [opStep_iff]
        refine .inr ⟨by rw [wx]; exact hw, ?_⟩
        show K (putF (putF fr y.dst u) x.dst undef) ds h'
        rw [← put_comm hap]; exact k
      · rw [opStep_iff]
        refine .inr ⟨by rw [wx]; exact hw, ?_⟩
        show K (putF (putF fr y.dst undef) x.dst undef) (d :: ds) h'
        rw [← put_comm hap]; exact k
    · refine .inr ⟨hwy, ?_⟩
      show opStep P ops x (putF fr y.dst undef) ds h K
      rw [opStep_iff]
      refine .inr ⟨by rw [wx]; exact hw, ?_⟩
      show K (putF (putF fr y.dst undef) x.dst undef) ds h
      rw [← put_comm hap]; exact z
theorem opStep_frame {o : Oper} {fr : Fr} {ds : List Deferred} {h : Heap} {K : Fr → List Deferred → Heap → Prop} (x : opStep P ops o fr ds h K) : opStep P ops o fr ds h fun fr' ds' h' => K fr' ds' h' ∧ ∃ v, fr' = putF fr o.dst v := by
  rw [opStep_iff] at x ⊢
  rcases x with ⟨hw, x⟩ | ⟨hw, x⟩
  · exact .inl ⟨hw, opRun_frame x⟩
  · exact .inr ⟨hw, x, _, rfl⟩
theorem opsI_mono : ∀ {l : List Nat} {fr : Fr} {ds : List Deferred} {h : Heap} {K K' : Fr → List Deferred → Heap → Prop}, opsI P ops l fr ds h K → (∀ fr ds h, K fr ds h → K' fr ds h) → opsI P ops l fr ds h K'
  | [], fr, ds, h, K, K', x, y => y _ _ _ x
  | i :: r, fr, ds, h, K, K', x, y => by
    unfold opsI at x ⊢
    cases hi : nth ops i with
    | none => simp only [hi] at x
    | some o => simp only [hi] at x ⊢; exact opStep_mono x fun fr ds h k => opsI_mono k y
theorem opsI_append : ∀ (A B : List Nat) (fr : Fr) (ds : List Deferred) (h : Heap) (K : Fr → List Deferred → Heap → Prop), opsI P ops (A ++ B) fr ds h K = opsI P ops A fr ds h fun fr ds h => opsI P ops B fr ds h K
  | [], B, fr, ds, h, K => rfl
  | i :: A, B, fr, ds, h, K => by
    simp only [List.cons_append, opsI]
    cases nth ops i with
    | none => rfl
    | some o => simp only [opsI_append A B]
theorem move_front {x : Oper} : ∀ (A : List Nat) (fr : Fr) (ds : List Deferred) (h : Heap) (K : Fr → List Deferred → Heap → Prop), (∀ i ∈ A, ∃ y, nth ops i = some y ∧ mayLead P ops x y fr) →
    (opStep P ops x fr ds h fun fr ds h => opsI P ops A fr ds h K) → opsI P ops A fr ds h fun fr ds h => opStep P ops x fr ds h K
  | [], fr, ds, h, K, _, z => z
  | i :: A, fr, ds, h, K, hA, z => by
    obtain ⟨y, hy, hm⟩ := hA i (by simp)
    simp only [opsI, hy] at z ⊢
    refine opStep_mono (opStep_frame (opStep_swap hm z)) fun fr2 ds2 h2 k => ?_
    obtain ⟨k, v, rfl⟩ := k
    refine move_front A _ ds2 h2 K (fun i' hi' => ?_) k
    obtain ⟨y', hy', hm'⟩ := hA i' (by simp [hi'])
    refine ⟨y', hy', hm'.1, ?_⟩
    have e : skipNow ops x (putF fr y.dst v) = skipNow ops x fr := by unfold skipNow; rw [want_put (apart_r hm.1)]
    rw [pureNow_congr (agree_rho (agree_put (apart_r hm.1))), e]
    exact hm'.2
end
end Go.Proofs.Ytabidhoaginokaa.Vc
