/-
  Operations that may change places.
-/
import Derived.Test.YtabidhoaginokaaVcG
namespace Go.Proofs.Ytabidhoaginokaa.Vc
open Go
set_option linter.unusedVariables false
set_option linter.unusedSimpArgs false

theorem shape1_mono {d : TypeDesc} {v : Value} {K K' : Value → Prop} (h : shape1 d v K) (y : ∀ v, K v → K' v) : shape1 d v K' := by
  cases d <;> simp only [shape1] at h ⊢ <;> first
    | (obtain ⟨a, b, c, e, x⟩ := h; exact ⟨a, b, c, e, y _ x⟩)
    | (obtain ⟨a, e, x⟩ := h; exact ⟨a, e, y _ x⟩)
    | exact y _ h
theorem shapeL_mono : ∀ {ds : List TypeDesc} {vs acc : List Value} {K K' : List Value → Prop}, shapeL ds vs acc K → (∀ l, K l → K' l) → shapeL ds vs acc K'
  | [], [], acc, K, K', h, y => y _ h
  | d :: ds, v :: vs, acc, K, K', h, y => shape1_mono h fun v x => shapeL_mono x y
  | [], v :: vs, acc, K, K', h, y => h.elim
  | d :: ds, [], acc, K, K', h, y => h.elim
theorem shapeE_mono : ∀ {ds : List TypeDesc} {acc : List Value} {K K' : List Value → Prop}, shapeE ds acc K → (∀ l, K l → K' l) → shapeE ds acc K'
  | [], acc, K, K', h, y => y _ h
  | d :: ds, acc, K, K', h, y => by
    cases d <;> simp only [shapeE] at h ⊢ <;> first
      | (obtain ⟨a, b, c, x⟩ := h; exact ⟨a, b, c, shapeE_mono x y⟩)
      | (obtain ⟨a, x⟩ := h; exact ⟨a, shapeE_mono x y⟩)
theorem shapeP1_mono {P : Program} {t : TypeId} {v : Value} {K K' : Value → Prop} (h : shapeP1 P t v K) (y : ∀ v, K v → K' v) : shapeP1 P t v K' := by
  unfold shapeP1 at h ⊢
  cases hu : P.underlying t with
  | none => simp only [hu] at h ⊢; exact y _ h
  | some d =>
    simp only [hu] at h ⊢
    cases d <;> simp only at h ⊢ <;> first
      | exact shape1_mono h y
      | (cases v <;> simp only at h ⊢ <;> first
          | exact shapeL_mono h fun l x => y _ x
          | exact shapeE_mono h fun l x => ⟨x.1, y _ x.2⟩)
theorem someT_mono {P : Program} {t : TypeId} {K K' : Value → Prop} (h : someT P t K) (y : ∀ v, K v → K' v) : someT P t K' := by
  unfold someT at h ⊢
  cases hu : P.underlying t with
  | none => simp only [hu] at h ⊢; obtain ⟨a, x⟩ := h; exact ⟨a, y _ x⟩
  | some d =>
    simp only [hu] at h ⊢
    cases d <;> simp only at h ⊢ <;> first
      | (obtain ⟨a, x⟩ := h; exact ⟨a, y _ x⟩)
      | (obtain ⟨a, b, c, x⟩ := h; exact ⟨a, b, c, y _ x⟩)
      | exact shapeE_mono h fun l x => y _ x
theorem someL_mono {P : Program} : ∀ {ts : List TypeId} {acc : List Value} {K K' : List Value → Prop}, someL P ts acc K → (∀ l, K l → K' l) → someL P ts acc K'
  | [], acc, K, K', h, y => y _ h
  | t :: ts, acc, K, K', h, y => someT_mono h fun v x => someL_mono x y
theorem shapeP_mono {P : Program} {t : TypeId} {v : Value} {K K' : Value → Prop} (h : shapeP P t v K) (y : ∀ v, K v → K' v) : shapeP P t v K' := by
  unfold shapeP at h ⊢
  cases hu : P.underlying t with
  | none => simp only [hu] at h ⊢; exact shapeP1_mono h y
  | some d =>
    simp only [hu] at h ⊢
    cases d with
    | tuple ts =>
      simp only at h ⊢
      cases hl : ts.toList with
      | nil => simp only [hl] at h ⊢; exact y _ h
      | cons a l => simp only [hl] at h ⊢; exact someL_mono h fun l x => ⟨x.1, y _ x.2⟩
    | _ => exact shapeP1_mono h y
theorem loadL_mono {h : Heap} {b o : Nat} : ∀ {ds : List TypeDesc} {i : Nat} {acc : List Value} {K K' : List Value → Prop}, loadL h b o ds i acc K → (∀ l, K l → K' l) → loadL h b o ds i acc K'
  | [], i, acc, K, K', x, y => y _ x
  | d :: ds, i, acc, K, K', x, y => by
    cases d <;> simp only [loadL] at x ⊢ <;> first
      | (obtain ⟨a1, a2, a3, e, x⟩ := x; exact ⟨a1, a2, a3, e, loadL_mono x y⟩)
      | (obtain ⟨a1, e, x⟩ := x; exact ⟨a1, e, loadL_mono x y⟩)
theorem storeL_mono {b o : Nat} : ∀ {vs : List Value} {i : Nat} {h : Heap} {K K' : Heap → Prop}, storeL b o vs i h K → (∀ h, K h → K' h) → storeL b o vs i h K'
  | [], i, h, K, K', x, y => y _ x
  | v :: r, i, h, K, K', x, y => ⟨x.1, x.2.1, Guard.intro x.2.2.out.1 fun h' e => storeL_mono (x.2.2.out.2 h' e) y⟩
theorem cellsG_mono {P : Program} {t : TypeId} {v : Value} {K K' : List Value → Prop} (h : cellsG P t v K) (y : ∀ l, K l → K' l) : cellsG P t v K' := by
  unfold cellsG at h ⊢
  cases hu : P.underlying t with
  | none => simp only [hu] at h ⊢; exact Guard.intro h.out.1 (y _ h.out.2)
  | some d =>
    simp only [hu] at h ⊢
    cases d <;> simp only at h ⊢ <;> first
      | exact Guard.intro h.out.1 (y _ h.out.2)
      | (cases v <;> simp only at h ⊢ <;> first | exact y _ h)
theorem fillG_mono {P : Program} {t : TypeId} : ∀ {parts : List (Nat × Value)} {cs : List Value} {K K' : List Value → Prop}, fillG P t parts cs K → (∀ l, K l → K' l) → fillG P t parts cs K'
  | [], cs, K, K', x, y => y _ x
  | (i, v) :: r, cs, K, K', x, y => by
    unfold fillG at x ⊢
    cases hp : placeOf P t i with
    | none => simp only [hp] at x
    | some q => 
      simp only [hp] at x ⊢
      exact cellsG_mono x fun l z => Guard.intro z.out.1 (fillG_mono z.out.2 y)
theorem semN_mono {P : Program} {s : Sem Next} {h : Heap} {K K' : Value → Heap → Prop} {D D' : Deferred → Heap → Prop} (x : semN P s h K D) (y : ∀ v h, K v h → K' v h) (z : ∀ d h, D d h → D' d h) : semN P s h K' D' := by
  refine semH_mono P x fun n h k => ?_
  cases n <;> first | exact y _ _ k | exact z _ _ k | exact k

theorem opH_mono {P : Program} {ρ : Operand → Value} {o : Oper} {h : Heap} {K K' : Value → Heap → Prop} {D D' : Deferred → Heap → Prop} (x : opH P ρ o h K D) (y : ∀ v h, K v h → K' v h) (z : ∀ d h, D d h → D' d h) : opH P ρ o h K' D' := by
  have lf : ∀ {s : Sem Value}, (semH P s h fun v h => shapeP P o.type v fun v => K v h) → semH P s h fun v h => shapeP P o.type v fun v => K' v h := fun k => semH_mono P k fun v h k => shapeP_mono k fun v => y v h
  obtain ⟨dst, op, ty, pos, aft, gd⟩ := o
  have sn : semN P (execOp ρ ⟨dst, op, ty, pos, aft, gd⟩) h K D → semN P (execOp ρ ⟨dst, op, ty, pos, aft, gd⟩) h K' D' := fun k => semN_mono k y z
  cases op
  case nilCheck q =>
    simp only [opH] at x ⊢
    split at x
    · obtain ⟨b, o, e, k⟩ := x; exact ⟨b, o, e, y _ _ k⟩
    · exact y _ _ x
    · exact y _ _ x
    · exact x.elim
  case indexAddr t q i =>
    simp only [opH] at x ⊢
    split at x
    · rename_i e p n c k j ht hx hi
      obtain ⟨b, o, e1, e2, e3, k⟩ := x.out.2
      exact Guard.intro x.out.1 ⟨b, o, e1, e2, e3, y _ _ k⟩
    · exact sn x
  case fieldAddr t q f =>
    simp only [opH] at x ⊢
    split at x
    · rename_i fs a ht hx
      cases hf : fs[f]? with
      | none => simp only [hf] at x
      | some fl => simp only [hf] at x ⊢; exact Guard.intro x.out.1 (y _ _ x.out.2)
    · exact x.elim
  case index t q i =>
    simp only [opH] at x ⊢
    split at x
    · obtain ⟨e1, b, e2, k⟩ := x; exact ⟨e1, b, e2, y _ _ k⟩
    · exact lf x
  case load t a =>
    simp only [opH] at x ⊢
    split at x
    · exact Guard.intro x.out.1 (loadL_mono x.out.2 fun l k => y _ _ k)
    · exact Guard.intro x.out.1 (loadL_mono x.out.2 fun l k => y _ _ k)
    · refine Guard.intro x.out.1 (loadL_mono x.out.2 fun l k => ?_)
      split at k
      · exact y _ _ k
      · exact k.elim
    · exact x.elim
  case store t a q =>
    simp only [opH] at x ⊢
    split at x
    · exact Guard.intro x.out.1 (cellsG_mono x.out.2 fun l k => Guard.intro k.out.1 (storeL_mono k.out.2 fun h k => y _ _ k))
    · exact x.elim
  case pick c a b =>
    simp only [opH] at x ⊢
    split at x
    · rcases x.out with ⟨e, k⟩ | ⟨e, k⟩
      · exact BIf.pos e (y _ _ k)
      · exact BIf.neg e (y _ _ k)
    · exact x.elim
  case build t parts =>
    simp only [opH] at x ⊢
    split at x
    · exact Guard.intro x.out.1 (fillG_mono x.out.2 fun l k => y _ _ k)
    · exact Guard.intro x.out.1 (fillG_mono x.out.2 fun l k => y _ _ k)
    · exact x.elim
  case buildSlice t len parts =>
    simp only [opH] at x ⊢
    split at x
    · rename_i e ht
      cases hz : zeroL P e with
      | none => simp only [hz] at x
      | some q => simp only [hz] at x ⊢; exact Guard.intro x.out.1 (fillG_mono x.out.2 fun l k h' e => y _ _ (k h' e))
    · exact x.elim
  case box t q =>
    simp only [opH] at x ⊢
    exact cellsG_mono x fun l k h' e => y _ _ (k h' e)
  case alloc t =>
    simp only [opH] at x ⊢
    split at x
    · exact fun h' e => y _ _ (x h' e)
    · exact x.elim
  case makeMap t r =>
    cases r with
    | none => exact fun h' e => y _ _ (x h' e)
    | some r => exact sn x
  case makeFunc fn first cap => exact y _ _ x
  case extract t ix =>
    simp only [opH] at x ⊢
    split at x
    · rename_i vs ht
      cases hn : nth vs.toList ix with
      | none => simp only [hn] at x
      | some v => simp only [hn] at x ⊢; exact y _ _ x
    · exact x.elim
  case field t q f =>
    simp only [opH] at x ⊢
    split at x
    · rename_i fs cs ht hx
      cases hf : fs[f]? with
      | none => simp only [hf] at x
      | some fl =>
        simp only [hf] at x ⊢
        refine Guard.intro x.out.1 ?_
        have x := x.out.2
        unfold partG at x ⊢
        cases hu : P.underlying fl.type with
        | none => simp only [hu] at x
        | some d => 
          simp only [hu] at x ⊢
          cases d <;> simp only at x ⊢ <;> first
            | exact y _ _ x
            | (cases hn : nth cs.toList fl.offset <;> simp only [hn] at x ⊢; exact y _ _ x)
    · exact x.elim
  case lookup t q i ok => exact lf x
  case mapUpdate t m k q => exact semH_mono P x fun _ h k => y _ _ k
  case insert t m k q => exact semH_mono P x fun _ h k => y _ _ k
  case range t q => exact lf x
  case next it s => exact lf x
  case typeAssert q t a ok => exact semH_mono P x fun v h z => shapeP_mono z fun v z => okShape_mono z fun v => y v h
  case slice t q lo hi mx => exact lf x
  case makeSlice t l c => exact lf x
  case convert s d q =>
    simp only [opH] at x ⊢
    split at x
    · exact y _ _ x
    · exact lf x
  case binOp op t a b t' =>
    simp only [opH] at x ⊢
    cases he : eqLeaf P op t with
    | true =>
      simp only [he] at x ⊢
      exact lf x
    | false =>
      simp only [he] at x ⊢
      split at x
      · split at x
        · exact Guard.intro x.out.1 ⟨x.out.2.1, y _ _ x.out.2.2⟩
        · exact Guard.intro x.out.1 ⟨x.out.2.1, y _ _ x.out.2.2⟩
        · exact ⟨x.1, y _ _ x.2⟩
        · exact ⟨x.1, y _ _ x.2⟩
        · exact sn x
      · split at x
        · exact lf x
        · exact sn x
      · split at x
        · exact lf x
        · exact sn x
      · split at x
        · exact lf x
        · exact lf x
        · exact x.elim
  case call c =>
    obtain ⟨callee, args, ats⟩ := c
    cases callee with
    | value f => exact CallV.mono x fun v h k => shapeP_mono k fun v => y v h
    | invoke r n =>
      simp only [opH] at x ⊢
      unfold InvokeH at x ⊢
      split at x
      · exact semH_mono P x fun r h k => CallH.mono k fun v h k => shapeP_mono k fun v => y v h
      · exact x.elim
    | builtin b =>
      cases b
      case append | copy | clear | delete => exact lf x
      case len =>
        simp only [opH] at x ⊢
        split at x
        · exact lf x
        · exact y _ _ x
        · exact y _ _ x
        · exact sn x
      all_goals exact sn x
  all_goals exact sn x

theorem opRun_mono {P : Program} {o : Oper} {fr : Fr} {ds : List Deferred} {h : Heap} {K K' : Fr → List Deferred → Heap → Prop} (x : opRun P o fr ds h K) (y : ∀ fr ds h, K fr ds h → K' fr ds h) : opRun P o fr ds h K' :=
  Guard.intro x.out.1 (opH_mono x.out.2 (fun v h => y _ _ h) (fun d h => y _ _ h))
theorem opStep_mono {P : Program} {ops : List Oper} {o : Oper} {fr : Fr} {ds : List Deferred} {h : Heap} {K K' : Fr → List Deferred → Heap → Prop} (x : opStep P ops o fr ds h K) (y : ∀ fr ds h, K fr ds h → K' fr ds h) : opStep P ops o fr ds h K' := by
  unfold opStep at x ⊢
  split at x
  · exact opRun_mono x y
  · rename_i j want hg
    cases hs : slotF ops j with
    | none => simp only [hs] at x
    | some d =>
      simp only [hs] at x ⊢
      cases hn : nthF fr d with
      | none => simp only [hn] at x
      | some v =>
        simp only [hn] at x ⊢
        cases v <;> simp only at x ⊢
        · cases want <;> simp only at x ⊢
          · rcases x.out with ⟨e, k⟩ | ⟨e, k⟩
            · exact BIf.pos e (y _ _ _ k)
            · exact BIf.neg e (opRun_mono k y)
          · rcases x.out with ⟨e, k⟩ | ⟨e, k⟩
            · exact BIf.pos e (opRun_mono k y)
            · exact BIf.neg e (y _ _ _ k)
        · exact y _ _ _ x
theorem opsT_mono {P : Program} {ops : List Oper} : ∀ {l : List Oper} {fr : Fr} {ds : List Deferred} {h : Heap} {K K' : Fr → List Deferred → Heap → Prop}, opsT P ops l fr ds h K → (∀ fr ds h, K fr ds h → K' fr ds h) → opsT P ops l fr ds h K'
  | [], fr, ds, h, K, K', x, y => y _ _ _ x
  | o :: r, fr, ds, h, K, K', x, y => opStep_mono x fun fr ds h k => opsT_mono k y

theorem opH_congr {P : Program} {ρ ρ' : Operand → Value} {o : Oper} (hr : ∀ x ∈ o.op.operands.toList, ρ x = ρ' x) {h : Heap} {K : Value → Heap → Prop} {D : Deferred → Heap → Prop} (x : opH P ρ o h K D) : opH P ρ' o h K D := by
  have ex := execOp_congr o hr
  obtain ⟨dst, op, ty, pos, aft, gd⟩ := o
  have am : ∀ (xs : Array Operand), (∀ x ∈ xs.toList, ρ x = ρ' x) → xs.toList.map ρ = xs.toList.map ρ' := fun xs hx => List.map_congr_left hx
  have om : ∀ (x : Option Operand), (∀ y ∈ x.toArray.toList, ρ y = ρ' y) → x.map ρ = x.map ρ' := by
    intro x hx
    cases x with
    | none => rfl
    | some x => simp only [Option.map_some, Option.some.injEq]; exact hx x (by simp)
  have pm : ∀ (xs : Array (Nat × Operand)), (∀ x ∈ (xs.toList.map (·.2)).toArray.toList, ρ x = ρ' x) → (xs.toList.map fun q => (q.1, ρ q.2)) = (xs.toList.map fun q => (q.1, ρ' q.2)) := by
    intro xs hx
    refine List.map_congr_left fun q hq => ?_
    simp only [Prod.mk.injEq, true_and]
    exact hx q.2 (by simp; exact ⟨q.1, by simpa using hq⟩)
  have sn : semN P (execOp ρ ⟨dst, op, ty, pos, aft, gd⟩) h K D → semN P (execOp ρ' ⟨dst, op, ty, pos, aft, gd⟩) h K D := fun k => by rw [← ex]; exact k
  cases op <;> simp only [Op.operands] at hr
  case call c =>
    obtain ⟨callee, args, ats⟩ := c
    simp only [Call.operands, Array.toList_append, List.mem_append] at hr
    have ha := am args fun x hx => hr x (.inr hx)
    cases callee with
    | value f => simp only [opH] at x ⊢; rw [← ha, ← hr f (.inl (by simp))]; exact x
    | invoke r n => simp only [opH] at x ⊢; rw [← ha, ← hr r (.inl (by simp))]; exact x
    | builtin b =>
      cases b
      case append | copy | clear | delete => simp only [opH] at x ⊢; rw [← ha]; exact x
      case len =>
        simp only [opH] at x ⊢
        rw [← ha, ← ex]
        exact x
      all_goals exact sn x
  case build t ps => simp only [opH] at x ⊢; rw [← pm ps hr]; exact x
  case buildSlice t n ps => simp only [opH] at x ⊢; rw [← pm ps hr]; exact x
  case makeFunc fn first cap =>
    simp only [Array.toList_append, List.mem_append] at hr
    simp only [opH] at x ⊢
    rw [← am first fun x hx => hr x (.inl hx), ← am cap fun x hx => hr x (.inr hx)]; exact x
  case makeMap t r => cases r with
    | none => exact x
    | some r => exact sn x
  case slice t x' lo hi mx =>
    simp only [Array.toList_append, List.mem_append] at hr
    simp only [opH] at x ⊢
    rw [← om lo fun y hy => hr y (by simp_all), ← om hi fun y hy => hr y (by simp_all), ← om mx fun y hy => hr y (by simp_all), ← hr x' (by simp)]
    exact x
  case go c => exact sn x
  case defer c => exact sn x
  case select cs b => exact sn x
  all_goals first
    | exact x
    | exact sn x
    | (simp only [List.mem_cons, List.not_mem_nil, or_false, forall_eq_or_imp, forall_eq] at hr
       simp only [opH] at x ⊢
       rw [← ex]
       simp only [← hr]
       exact x)
    | (simp only [List.mem_cons, List.not_mem_nil, or_false, forall_eq_or_imp, forall_eq] at hr
       simp only [opH] at x ⊢
       simp only [← hr]
       exact x)
end Go.Proofs.Ytabidhoaginokaa.Vc
