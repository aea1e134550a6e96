/-
  A LAW's ROW, out of what its call keeps: the post-condition; the arguments' slices as cells.
-/
import Derived.Test.YtabidhoaginokaaVcW
import Derived.ProofKit
import Derived.OpenShut
import Derived.OpenVars
import Derived.JoinedCond
import Derived.Deep.Slices
import Derived.Deep.Strs
namespace Go.Proofs.Ytabidhoaginokaa.Vc
open Go Go.ChangeShapes Go.WideShapes Go.ChangeAt Go.RowKit Go.Deep
set_option linter.unusedVariables false
set_option linter.unusedSimpArgs false

section
variable {H : Type} {enc : TypeId × Value → H} {P : Program}

theorem below_of {W W' : World} (k : Kept [] W.heap W'.heap) (o : Outer W W') : Below W.heap.size W W' := ⟨o.os, o.tape, o.output, k.size, fun r hr => k.get r hr (by simp)⟩

theorem keep_all (hl : laidOutB P = true) {W W' : World} (hb : Below W.heap.size W W') {sp : Nat → Bool} : ∀ {ts : List TypeId} {vs : List Value} {ds : List (DataW H)} {ps : List MemPlace}, (∀ t ∈ ts, P.readableRec t = true ∧ t < P.types.size) →
    DataW.TrodAll enc P W 0 (fun _ => true) true ts vs ds ps → (∀ p ∈ ps, p.block < W.heap.size) → (∀ p ∈ ps, sp p.block = true) → DataW.TrodAll enc P W' 0 sp true ts vs ds ps
  | [], [], [], ps, _, h, _, _ => h
  | t :: ts, v :: vs, d :: ds, ps, ht, ⟨p, q, h1, h2, e⟩, hlt, hsp => by
    subst e
    have h3 := ht t (by simp)
    exact ⟨p, q, WideElems.Trod_stays hl h3.1 h3.2 h1 (fun x hx => hb.same (hlt x (by simp [hx]))) (fun x hx => hsp x (by simp [hx])),
      keep_all hl hb (fun t h => ht t (by simp [h])) h2 (fun x hx => hlt x (by simp [hx])) (fun x hx => hsp x (by simp [hx])), rfl⟩
  | [], [], _ :: _, _, _, h, _, _ => h.elim
  | [], _ :: _, _, _, _, h, _, _ => h.elim
  | _ :: _, [], _, _, _, h, _, _ => h.elim
  | _ :: _, _ :: _, [], _, _, h, _, _ => h.elim

/-- A law that answers true and leaves alone what was there. -/
theorem law_post (hl : laidOutB P = true) {f : Func} {s : ChangeSpec} {tb : TypeId} {apart fresh handsOn again : Bool} {W W' : World} {args : Array Value} {ds gs : List (DataW H)} {before : List MemPlace}
    (hts : ∀ t ∈ f.params.toList, P.readableRec t = true ∧ t < P.types.size) (hvs : s.vars = []) (hr : f.resultTypes = #[tb]) (htb : P.underlying tb = some .bool)
    (hW : DataW.Whole enc P f.params.toList s.vars apart W args.toList ds gs before)
    (hfn : gs = [] → s.fn H (ds ++ gs) = { results := [.lit (.bool true)], args := ds, vars := [] }) (kp : Kept [] W.heap W'.heap) (o : Outer W W') :
    s.post enc P f apart fresh handsOn again W args (.bool true) W' := by
  have hb := below_of kp o
  have hWW := hW
  obtain ⟨p, q, hA, hV, rfl, hz, hn⟩ := hW
  have hlt := hWW.lt
  rw [hvs] at hV
  obtain ⟨rfl, rfl⟩ := trodVars_none hV
  have hfn' := hfn rfl
  have hargs : ∀ sp : Nat → Bool, (∀ x ∈ p, sp x.block = true) → DataW.TrodAll enc P W' 0 sp true f.params.toList args.toList (s.fn H (ds ++ [])).args p := fun sp hsp => by
    rw [hfn']; exact keep_all hl hb hts hA (fun x hx => hlt x (by simp [hx])) hsp
  have hres : ∀ (b : Nat) (sp : Nat → Bool) (hd : Bool), DataW.TrodAll enc P W' b sp hd f.resultTypes.toList ((Value.bool true).resultList f.resultTypes.size) (s.fn H (ds ++ [])).results [] := fun b sp hd => by
    rw [hfn', hr]; exact trodAll_mk1 (shut_bool htb true)
  have hvars : ∀ sp : Nat → Bool, DataW.TrodVars enc P W' sp s.vars (s.fn H (ds ++ [])).vars [] := fun sp => by rw [hfn', hvs]; rfl
  simp only [List.append_nil] at hlt hz hn hWW ⊢
  refine ⟨ds, [], p, [], p, [], hWW, hres _ _ _, ?_, ?_, World.keptBut_mono (fun x hx => ⟨by simpa using hx, by simp [hx]⟩) (hb.frame _), fun _ => ?_⟩
  · exact hargs _ fun x hx => by simpa using hlt x hx
  · exact hvars _
  · refine ⟨?_, _, _, ([] ++ p) ++ [], ⟨[] ++ p, [], trodAll_append (hargs _ (fun _ _ => rfl)) (hres _ _ _), hvars _, rfl, ?_, ?_⟩, ?_⟩
    · exact ok_one hr rfl (okWide_bool_mk htb _)
    · intro b off hp
      simp only [List.nil_append, List.append_nil] at hp
      have := hlt _ hp
      rw [hb.frozen (p := ⟨b, off, none⟩) (by simpa [MemPlace.block] using this)]
      exact hz b off hp
    · intro ha
      simpa using hn ha
    · intro x hx _
      simpa using hx

/-! ### A slice that came in, as cells -/
theorem lies_off {d : Nat} {e u : TypeId} {count off n : Nat} (h : liesAt P d e count off u n = true) : off ≤ count * P.cellsOf e := by
  have row : ∀ (fits : TypeId → Bool) (d : Nat) (n : Nat), rowAt P fits d e count off n = true → off ≤ count * P.cellsOf e := by
    intro fits d n h
    cases d with
    | zero => simp [rowAt] at h
    | succ d =>
      unfold rowAt at h
      simp only at h
      split at h
      · cases h
      · rename_i hs
        have hmod := Nat.div_add_mod off (P.cellsOf e)
        have hlt := Nat.mod_lt off (Nat.pos_of_ne_zero hs)
        rw [Bool.or_eq_true] at h
        rcases h with h | h
        · simp only [Bool.and_eq_true, decide_eq_true_eq, beq_iff_eq] at h
          have : P.cellsOf e * (off / P.cellsOf e) ≤ P.cellsOf e * count := Nat.mul_le_mul_left _ (by omega)
          rw [Nat.mul_comm count]; omega
        · simp only [Bool.and_eq_true, decide_eq_true_eq] at h
          have : P.cellsOf e * (off / P.cellsOf e + 1) ≤ P.cellsOf e * count := Nat.mul_le_mul_left _ (by omega)
          rw [Nat.mul_add] at this
          rw [Nat.mul_comm count]; omega
  induction d generalizing u n with
  | zero => simp [liesAt] at h
  | succ d ih =>
    unfold liesAt at h
    rw [Bool.or_eq_true] at h
    rcases h with h | h
    · exact row _ _ _ h
    · split at h
      · exact ih h
      · cases h

theorem read_slice {t e : TypeId} {W : World} {base : Nat} {v : Value} {d : DataW H} {ps : List MemPlace} (ht : P.underlying t = some (.slice e)) (hk : 0 < P.cellsOf e) (hval : Value.okWide P W .any base t v) (h : DataW.Trod enc P W 0 (fun _ => true) true t v d ps) :
    ∃ (p : Option Addr) (n c : Nat) (vs : List Value) (m : Nat), v = .slice p n c ∧ SlC W.heap e (P.cellsOf e) p n c vs ∧
      ((n = 0 ∧ d = .nil) ∨ ∃ (D : Nat → DataW H) (rest : List (DataW H)), d = .slice ((List.range n).map D) rest ∧ ∀ i, i < n → ∃ pl, DataW.trod enc P W 0 (fun _ => true) true m e ((vs.drop (i * P.cellsOf e)).take (P.cellsOf e)) = some (D i, pl)) := by
  obtain ⟨p, n, c, rfl⟩ := okWide_slice ht hval
  obtain ⟨fuel, h⟩ := h
  have h' : DataW.trod enc P W 0 (fun _ => true) true fuel t [.slice p n c] = some (d, ps) := by simpa [Value.cells] using h
  rcases open_slice ht h' with ⟨h1, h2⟩ | ⟨a, len, cap, m, fu, D, Pl, h1, hb, hl, hm, rfl, h2, h3⟩
  · simp only [List.cons.injEq, Value.slice.injEq, and_true] at h1
    obtain ⟨rfl, rfl, rfl⟩ := h1
    cases h2
    exact ⟨none, 0, 0, [], 0, rfl, SlC.nil _ _ _, .inl ⟨rfl, rfl⟩⟩
  · simp only [List.cons.injEq, Value.slice.injEq, and_true] at h1
    obtain ⟨rfl, rfl, rfl⟩ := h1
    cases h2
    simp only [Value.okWide, ht, Cell.okWide, Cell.ok] at hval
    obtain ⟨-, -, -, hspot, row, cells, hsh, hlie⟩ := hval
    obtain ⟨b, o, sp⟩ := a
    simp only at hspot; subst hspot
    have hsh' : shapeH W.heap b = some (row, cells) := hsh
    unfold shapeH at hsh'
    split at hsh'
    · rename_i cs e' fz hbk
      simp only [Option.some.injEq, Prod.mk.injEq] at hsh'
      obtain ⟨rfl, rfl⟩ := hsh'
      have hoff : o ≤ cs.size := Nat.le_trans (lies_off hlie) (Nat.div_mul_le_self _ _)
      have hcell : ∀ j, W.cell? ⟨b, j, none⟩ = cs[j]? := fun j => by rw [cell_eq]; exact cell_of hbk j
      have hrow : ∀ i, i < c → ∃ cs', cs'.length = P.cellsOf e ∧ (∀ j, j < P.cellsOf e → cs[o + (i * P.cellsOf e + j)]? = cs'[j]?) ∧ DataW.trod enc P W 0 (fun _ => true) true fu e cs' = some (D i, Pl i) := by
        intro i hi
        obtain ⟨cs', h4, h5⟩ := h3 i hi
        obtain ⟨_, h6, h7⟩ := World.cells?_some h4
        refine ⟨cs', h6, fun j hj => ?_, h5⟩
        have := h7 j hj
        rw [add_plain, add_plain, hcell] at this
        rw [← this]; congr 1; omega
      have hcap : o + c * P.cellsOf e ≤ cs.size := by
        rcases Nat.eq_zero_or_pos c with rfl | g
        · omega
        · obtain ⟨cs', h4, h5, _⟩ := hrow (c - 1) (by omega)
          have h6 := h5 (P.cellsOf e - 1) (by omega)
          rw [List.getElem?_eq_getElem (by omega)] at h6
          have := (Array.getElem?_eq_some_iff.1 h6).1
          have hm : (c - 1) * P.cellsOf e + P.cellsOf e = c * P.cellsOf e := by
            rw [← Nat.succ_mul]; congr 1; omega
          omega
      have hnk : n * P.cellsOf e ≤ c * P.cellsOf e := Nat.mul_le_mul_right _ hl
      refine ⟨some ⟨b, o, none⟩, n, c, (cs.toList.drop o).take (n * P.cellsOf e), fu, rfl, ⟨hl, ?_, rfl, cs, (e', fz), hbk, hcap, fun i hi => ?_⟩, .inr ⟨D, _, rfl, fun i hi => ?_⟩⟩
      · simp; omega
      · rw [List.getElem?_take, if_pos hi, List.getElem?_drop, Array.getElem?_toList]
      · obtain ⟨cs', h4, h5, h6⟩ := hrow i (by omega)
        refine ⟨Pl i, ?_⟩
        have : (((cs.toList.drop o).take (n * P.cellsOf e)).drop (i * P.cellsOf e)).take (P.cellsOf e) = cs' := by
          have hin : i * P.cellsOf e + P.cellsOf e ≤ n * P.cellsOf e := by rw [← Nat.succ_mul]; exact Nat.mul_le_mul_right _ hi
          apply List.ext_getElem?
          intro j
          rw [List.getElem?_take]
          split
          · rename_i hj
            rw [List.getElem?_drop, List.getElem?_take, if_pos (by omega), List.getElem?_drop, Array.getElem?_toList, ← h5 j hj]
          · rename_i hj
            rw [List.getElem?_eq_none (by omega)]
        rw [this]; exact h6
    · cases hsh'
end
end Go.Proofs.Ytabidhoaginokaa.Vc
