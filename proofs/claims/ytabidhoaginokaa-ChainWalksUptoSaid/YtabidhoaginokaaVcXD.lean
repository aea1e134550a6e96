/-
  ChainWalks: the walk inside of the walk.
-/
import Derived.Test.YtabidhoaginokaaVcXC
namespace Go.Proofs.Ytabidhoaginokaa
open Go Go.Proofs Go.Proofs.Ytabidhoaginokaa.Vc
set_option linter.unusedVariables false
set_option linter.unusedSimpArgs false
set_option maxRecDepth 100000

structure CountI (h0 : Heap) (l : List Ver) (n q18 L : Nat) (r : Loop) (m : Nat) (last : Int) (h : Heap) : Prop where
  kept : Kept [q18, L] h0 h
  lrec : h[L]? = some (.loop r)
  at_ : ∃ i, Cut l last i ∧ m = n - i ∧ h[q18]? = some (.cells #[.int .i64 (i : Nat)] 3 (0, 0))
structure CountD (h0 : Heap) (n q18 L : Nat) (r : Loop) (h : Heap) : Prop where
  kept : Kept [q18, L] h0 h
  lrec : h[L]? = some (.loop r)
  at_ : h[q18]? = some (.cells #[.int .i64 (n : Nat)] 3 (0, 0))

theorem walk3 {h0 : Heap} {c : Nat} {p pb : Option Addr} {n cap cb : Nat} {l : List Ver} {q6 q11 q18 q D L : Nat} {r : Loop} {v99 : Value} (C : ChainAt h0 c p n cap l)
    (b11 : h0[q11]? = some (.cells #[.slice pb n cb] 24 (0, 0))) (bq : h0[q]? = some (.cells #[.pointer (some ⟨c, 0, none⟩)] 23 (0, 0))) (l18 : q18 < h0.size) (lL : L < h0.size)
    (w : q11 ≠ q18 ∧ q11 ≠ L ∧ q ≠ q18 ∧ q ≠ L ∧ c ≠ q18 ∧ c ≠ L ∧ q18 ≠ L) (wp : ∀ x ∈ blk p, x ≠ q18 ∧ x ≠ L)
    (hr : LoopIs r (FrL 115 [(6, .pointer (some ⟨q6, 0, none⟩)), (11, .pointer (some ⟨q11, 0, none⟩)), (18, .pointer (some ⟨q18, 0, none⟩)), (99, v99)]) #[100, 101] (codeAt (bodyC Try.f3) [1, 1, 0, 1, 1]) (codeAt (bodyC Try.f3) [1, 1, 1, 1, 1, 1, 1, 1, 1, 1, 0, 1, 0, 1, 0, 1, 1, 1, 1, 0, 1, 0, 1]) D) :
    Walkable c q L (CountI h0 l n q18 L r) (CountD h0 n q18 L r) where
  cell := fun m last h I => by rw [cell_of (I.kept.some bq (by simp; omega))]; rfl
  chain := fun m last h I => ⟨p, n, cap, l, C.kept I.kept (by simp; omega) fun x hx hm => by have := wp x hx; simp at hm; omega⟩
  stab := fun m last h h' I kp => by
    obtain ⟨i, cc, hm, hb⟩ := I.at_
    exact ⟨I.kept.trans kp (by simp), kp.some I.lrec (by simp), i, cc, hm, kp.some hb (by simp)⟩
  done := fun m last h p' n' cap' l' I C' cc => by
    obtain ⟨i, ci, hm, hb⟩ := I.at_
    have C0 := C.kept I.kept (by simp; omega) fun x hx hm => by have := wp x hx; simp at hm; omega
    have e1 := C'.obj.symm.trans C0.obj
    have e2 : p' = p ∧ n' = n ∧ cap' = cap := by
      simp only [Option.some.injEq, Obj.cells.injEq] at e1
      simpa using congrArg Array.toList e1.1
    obtain ⟨rfl, rfl, rfl⟩ := e2
    have el : l' = l := same_row C'.row C0.row
    subst el
    have := ci.unique cc
    have hlen := C'.len
    exact ⟨I.kept, I.lrec, by rw [hb]; rw [this, hlen]⟩
  round := fun m last h v k p' n' cap' l' I C' cc hv => by
    obtain ⟨i, ci, hm, hb⟩ := I.at_
    have C0 := C.kept I.kept (by simp; omega) fun x hx hm => by have := wp x hx; simp at hm; omega
    have e1 := C'.obj.symm.trans C0.obj
    have e2 : p' = p ∧ n' = n ∧ cap' = cap := by
      simp only [Option.some.injEq, Obj.cells.injEq] at e1
      simpa using congrArg Array.toList e1.1
    obtain ⟨rfl, rfl, rfl⟩ := e2
    have el : l' = l := same_row C'.row C0.row
    subst el
    have := ci.unique cc
    subst this
    have hlen := C'.len
    have hin : i < n' := by rw [← hlen]; exact (List.getElem?_eq_some_iff.1 hv).1
    have hfew := C'.few
    refine round_of_dn (M := M3) (args := [_, _]) I.lrec hr.params hr.assign hr.body hr.tmps rfl (by kernel_rfl) ?_
    have hfr : putArgs (FrL 115 [(6, .pointer (some ⟨q6, 0, none⟩)), (11, .pointer (some ⟨q11, 0, none⟩)), (18, .pointer (some ⟨q18, 0, none⟩)), (99, v99)]) [100, 101] [.int .i64 v.1, .string v.2] =
        FrL 115 [(6, .pointer (some ⟨q6, 0, none⟩)), (11, .pointer (some ⟨q11, 0, none⟩)), (18, .pointer (some ⟨q18, 0, none⟩)), (99, v99), (100, .int .i64 v.1), (101, .string v.2)] := by kernel_rfl
    show dn _ _ _ _ (putArgs _ [100, 101] _) _ _ _
    rw [hfr]
    have sk : codeAt (bodyC Try.f3) [1, 1, 0, 1, 1] = .skip := by kernel_rfl
    rw [sk]
    have lLh := lt_of_get I.lrec
    show roundA _ _ _ _ _ .normal _ _ _
    refine ⟨r, I.lrec, hr.state, ?_⟩
    have kL := Kept.setObj (h := h) L (.loop { r with state := .busy })
    have hrec1 : (h.setIfInBounds L (.loop { r with state := .busy }))[L]? = some (.loop { r with state := .busy }) := setObj_eq lLh
    have hb1 := kL.some hb (by simp; omega)
    have K1 : Kept [q18, L] h0 (h.setIfInBounds L (.loop { r with state := .busy })) := I.kept.trans kL fun x hx _ => by simp at hx; simp [hx]
    rw [vc3_11111111110101011110101]
    refine ⟨_, by rw [cell_of hb1]; rfl, ⟨_, by rw [cell_of hb1]; rfl⟩, frozen_of hb1 0, fun h2 hh2 => ?_⟩
    rw [incr i (by omega)] at hh2
    have k2 : Kept [q18] _ h2 := hh2 ▸ Kept.setCell _ _ _
    have hb2 : h2[q18]? = some (.cells #[.int .i64 ((i + 1 : Nat) : Int)] 3 (0, 0)) := by rw [hh2, setCell_eq hb1]; rfl
    have K2 : Kept [q18, L] h0 h2 := K1.trans k2 fun x hx _ => by simp at hx; simp [hx]
    have hrec2 := k2.some hrec1 (by simp; omega)
    have lL2 := lt_of_get hrec2
    refine ⟨_, by rw [cell_of hb2]; rfl, pb, n', cb, by rw [cell_of (K2.some b11 (by simp; omega))]; rfl, ?_⟩
    refine BIf.neg (by simp; omega) ?_
    refine ⟨_, hrec2, .inl ⟨rfl, n' - (i + 1), by omega, ?_⟩⟩
    have k3 := Kept.setObj (h := h2) L (.loop { r with state := .ready, pending := none })
    have hreq : ({ ({ r with state := .busy } : Loop) with state := .ready, pending := none } : Loop) = r := by
      have h1 := hr.state; have h2 := hr.pending
      cases r; simp_all
    exact ⟨K2.trans k3 (fun x hx _ => by simp at hx; simp [hx]), by rw [setObj_eq lL2, hreq], i + 1, cut_next C'.rise cc hv, rfl, k3.some hb2 (by simp; omega)⟩
end Go.Proofs.Ytabidhoaginokaa
