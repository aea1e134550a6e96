/-
  Each operation of our own wording comes to the model's.
-/
import Derived.Test.YtabidhoaginokaaVcC
namespace Go.Proofs.Ytabidhoaginokaa.Vc
open Go
set_option linter.unusedVariables false
set_option linter.unusedSimpArgs false
section
variable {P : Program} {h : Heap} {K : Value → Heap → Prop} {D : Deferred → Heap → Prop}

theorem und_sem {t : TypeId} {d : TypeDesc} {J : TypeDesc → Heap → Prop} (hd : P.underlying t = some d) (k : J d h) : semH P (underlying t) h J := by
  unfold underlying
  refine semH_bind P program _ ?_
  simp only [program, semH, hd]
  exact k
theorem loadAt_sem {t : TypeId} {a : Addr} (ha : a.spot.isNone = true) {d : TypeDesc} (hd : P.underlying t = some d) (hflat : (match d with | .struct _ | .array _ _ => (flatP P 20 t).length = P.cellsOf t | _ => True))
    (x : match d with
      | .struct _ | .array _ _ => loadL h a.block a.off (flatP P 20 t) 0 [] fun l => K (.agg l.toArray) h
      | d => loadL h a.block a.off [d] 0 [] fun l => (match l with | [v] => K v h | _ => False)) : semH P (Instr.loadAt t (.pointer (some a))) h K := by
  obtain ⟨i, hi⟩ := info_of_underlying hd
  rw [spot_none ha]
  unfold Instr.loadAt
  refine semH_bind P (Instr.sureAddr _) _ ?_
  show semH P (loadVar t _) h K
  unfold loadVar
  refine semH_bind P (isAgg t) _ (isAgg_run hd ?_)
  have agg : (flatP P 20 t).length = P.cellsOf t → (loadL h a.block a.off (flatP P 20 t) 0 [] fun l => K (.agg l.toArray) h) → semH P (do pure (.agg (← loadCells ⟨a.block, a.off, none⟩ (← sizeOf t))) : Sem Value) h K := by
    intro hf x
    refine semH_bind P (sizeOf t) _ (sizeOf_run hi ?_)
    rw [cellsOf_info hi] at hf
    obtain ⟨vs, hl, hc, k⟩ := load_cells _ _ _ _ x
    refine semH_bind P (loadCells _ _) _ ?_
    unfold loadCells
    exact loadCellsFrom_sem i.size 0 #[] vs _ (by omega) (fun j hj => hc j (by omega)) (by show semH P (pure _) h K; simpa [semH, pure] using k)
  have one : (loadL h a.block a.off [d] 0 [] fun l => (match l with | [v] => K v h | _ => False)) → semH P (load ⟨a.block, a.off, none⟩) h K := by
    intro x
    obtain ⟨vs, hl, hc, k⟩ := load_cells _ _ _ _ x
    match vs, hl, k, hc with
    | [v], _, k, hc => exact ⟨v, by simpa using hc 0 (by simp), k⟩
  cases d <;> first | exact agg hflat x | exact one x

theorem storeCells_sem {b o : Nat} : ∀ (vs : List Value) (i : Nat) (h : Heap) (J : Heap → Prop), storeL b o vs i h J → semH P (storeCells ⟨b, o, none⟩ vs i) h fun _ h => J h
  | [], i, h, J, x => x
  | v :: vs, i, h, J, x => by
    obtain ⟨⟨u, hu⟩, hf, x⟩ := x
    obtain ⟨hv, x⟩ := x.out
    unfold storeCells
    refine semH_bind P (store _ _) _ ?_
    rw [add_plain]
    rw [addO_eq] at hu hf x
    exact ⟨⟨u, hu⟩, hf, Guard.intro hv (storeCells_sem vs (i + 1) _ J (x _ rfl))⟩
theorem cellsG_out {t : TypeId} {v : Value} {J : List Value → Prop} (x : cellsG P t v J) : J v.cells.toList := by
  unfold cellsG at x
  split at x
  · split at x
    · exact x
    · exact x.elim
  · split at x
    · exact x
    · exact x.elim
  · obtain ⟨hv, x⟩ := x.out
    cases v <;> first | exact x | simp [cellV] at hv
theorem size_cells (v : Value) : v.cells.size = v.cells.toList.length := by simp
theorem storeAt_sem {t : TypeId} {a : Addr} {v : Value} {i : TypeInfo} (hi : P.info? t = some i) (ha : a.spot.isNone = true) (x : cellsG P t v fun cs => Guard (cs.length == P.cellsOf t) (storeL a.block a.off cs 0 h fun h => K undef h)) :
    semH P (Instr.storeAt t (.pointer (some a)) v) h fun _ h => K undef h := by
  obtain ⟨hl, x⟩ := (cellsG_out x).out
  rw [spot_none ha]
  unfold Instr.storeAt
  refine semH_bind P (Instr.sureAddr _) _ ?_
  show semH P (storeVar t _ v) h _
  unfold storeVar
  refine semH_bind P (sizeOf t) _ (sizeOf_run hi ?_)
  have : v.cells.size = i.size := by rw [← cellsOf_info hi]; simpa using hl
  rw [if_neg (by simp [this])]
  exact storeCells_sem _ 0 h _ x

theorem setSeg_cons {α : Type} : ∀ (n : Nat) (v : α) (vs cs : List α), n < cs.length → setSeg n (v :: vs) cs = setSeg (n + 1) vs (cs.set n v)
  | 0, v, vs, [], h => by simp at h
  | 0, v, vs, c :: cs, h => rfl
  | n + 1, v, vs, [], h => by simp at h
  | n + 1, v, vs, c :: cs, h => by
    have := setSeg_cons n v vs cs (by simpa using h)
    simp only [setSeg, List.set_cons_succ, List.cons.injEq, true_and] at this ⊢
    exact this
theorem setSeg_nil {α : Type} : ∀ (n : Nat) (cs : List α), n ≤ cs.length → setSeg n [] cs = cs
  | 0, cs, h => by cases cs <;> rfl
  | n + 1, [], h => by simp at h
  | n + 1, c :: cs, h => by simp only [setSeg]; rw [setSeg_nil n cs (by simpa using h)]
theorem fold_set (off : Nat) : ∀ (vs : List Value) (k : Nat) (a : Array Value), off + k + vs.length ≤ a.size →
    ((vs.zipIdx k).foldl (fun (cs : Array Value) (x : Value × Nat) => cs.setIfInBounds (off + x.2) x.1) a).toList = setSeg (off + k) vs a.toList
  | [], k, a, h => by rw [setSeg_nil _ _ (by simpa using h)]; rfl
  | v :: vs, k, a, h => by
    simp only [List.zipIdx_cons, List.foldl_cons]
    have hlt : off + k < a.size := by simp at h; omega
    rw [fold_set off vs (k + 1) _ (by simp at h ⊢; omega), setSeg_cons _ _ _ _ (by simpa using hlt)]
    congr 1
    simp
theorem fill_sem {t : TypeId} {places : Nat → Option (Nat × Nat)} (hp : ∀ i off e, placeOf P t i = some (off, e) → places i = some (off, P.cellsOf e)) :
    ∀ (parts : List (Nat × Value)) (cs : List Value) (J : List Value → Prop), fillG P t parts cs J → ∃ c, Instr.fill places cs.toArray parts = some c ∧ J c.toList
  | [], cs, J, x => ⟨cs.toArray, rfl, by simpa [fillG] using x⟩
  | (i, v) :: r, cs, J, x => by
    unfold fillG at x
    split at x
    · rename_i off e hpl
      have x' := cellsG_out x
      obtain ⟨hg, x'⟩ := x'.out
      simp only [Bool.and_eq_true, beq_iff_eq, decide_eq_true_eq] at hg
      obtain ⟨h1, h2⟩ := hg
      have hset : setSeg off v.cells.toList cs = (v.cells.zipIdx.foldl (fun cs (c, j) => cs.setIfInBounds (off + j) c) cs.toArray).toList := by
        have := fold_set off v.cells.toList 0 cs.toArray (by simpa using h2)
        simp only [Nat.add_zero] at this
        rw [← this, ← Array.foldl_toList]
        simp [Array.toList_zipIdx]
      obtain ⟨c, hc, k⟩ := fill_sem hp r _ J x'
      refine ⟨c, ?_, k⟩
      unfold Instr.fill
      rw [hp i off e hpl]
      simp only
      have e1 : v.cells.size = P.cellsOf e := by simpa using h1
      have e2 : off + v.cells.size ≤ cs.length := by simpa using h2
      rw [if_neg (by simp [e1]; omega)]
      rw [← hc, hset]
    · exact x.elim
theorem zero_sem {t : TypeId} {z : List Value} {J : Value → Heap → Prop} (hz : zeroL P t = some z) (k : ∀ v : Value, v.cells.toList = z → J v h) : semH P (zeroValue t) h J := by
  unfold zeroL at hz
  split at hz
  · rename_i i hi
    unfold zeroValue
    refine semH_bind P (typeInfo t) _ ?_
    unfold typeInfo
    refine semH_bind P program _ ?_
    simp only [program, semH, hi]
    show semH P (match i.zero with | some v => pure v | none => unsupported _) h J
    split at hz
    · rename_i c hc; rw [hc]; cases hz; exact k _ rfl
    · rename_i v hv hne; rw [hne]; cases hz
      refine k v ?_
      cases v <;> first | rfl | exact absurd hne (by first | exact hv _ | simp_all)
    · cases hz
  · cases hz
theorem newVar_sem {t : TypeId} {v : Value} (x : newH h (.cells v.cells t) fun h' => K (.pointer (some ⟨h.size, 0, none⟩)) h') : semH P (do pure (.pointer (some (← newVar t v))) : Sem Value) h K := x _ rfl
theorem mapM_fields {J : Array (Nat × Nat) → Heap → Prop} (fs : Array Field) (k : J (fs.map fun f => (f.offset, P.cellsOf f.type)) h) (hok : ∀ f ∈ fs, ∃ i, P.info? f.type = some i) :
    semH P (fs.mapM fun f => (do pure (f.offset, ← sizeOf f.type) : Sem (Nat × Nat))) h J := by
  rw [Array.mapM_eq_mapM_toList]
  have key : ∀ (l : List Field) (J : List (Nat × Nat) → Heap → Prop), (∀ f ∈ l, ∃ i, P.info? f.type = some i) → J (l.map fun f => (f.offset, P.cellsOf f.type)) h →
      semH P (l.mapM fun f => (do pure (f.offset, ← sizeOf f.type) : Sem (Nat × Nat))) h J := by
    intro l
    induction l with
    | nil => intro J _ k; exact k
    | cons f l ih =>
      intro J hok k
      obtain ⟨i, hi⟩ := hok f (by simp)
      rw [List.mapM_cons]
      refine semH_bind P _ _ (semH_bind P (sizeOf f.type) _ (sizeOf_run hi ?_))
      refine semH_bind P _ _ (ih _ (fun g hg => hok g (by simp [hg])) ?_)
      show J _ h
      simpa [cellsOf_info hi] using k
  refine semH_bind P _ _ (key _ _ (fun f hf => hok f (by simpa using hf)) ?_)
  show J (List.map (fun f => (f.offset, P.cellsOf f.type)) fs.toList).toArray h
  have e : (List.map (fun f : Field => (f.offset, P.cellsOf f.type)) fs.toList).toArray = fs.map fun f => (f.offset, P.cellsOf f.type) := by
    rw [← Array.toList_map]
  rw [e]; exact k
end
end Go.Proofs.Ytabidhoaginokaa.Vc
