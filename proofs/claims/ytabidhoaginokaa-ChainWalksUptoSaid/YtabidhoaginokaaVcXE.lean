/-
  ChainWalks: the second walk, another one inside of it.
-/
import Derived.Test.YtabidhoaginokaaVcXD
namespace Go.Proofs.Ytabidhoaginokaa
open Go Go.Proofs Go.Proofs.Ytabidhoaginokaa.Vc
set_option linter.unusedVariables false
set_option linter.unusedSimpArgs false
set_option maxRecDepth 100000

structure AgainI (h0 : Heap) (l : List Ver) (n q15 L : Nat) (r : Loop) (m : Nat) (last : Int) (h : Heap) : Prop where
  kept : Kept [q15, L] h0 h
  lrec : h[L]? = some (.loop r)
  out : ∃ (i : Nat) (po : Option Addr) (co : Nat), Cut l last i ∧ m = n - i ∧ h[q15]? = some (.cells #[.slice po i co] 24 (0, 0)) ∧ VerS h 36 po i co (l.take i) ∧ Free h po ∧ New h0.size po
structure AgainD (h0 : Heap) (l : List Ver) (n q15 L : Nat) (r : Loop) (h : Heap) : Prop where
  kept : Kept [q15, L] h0 h
  lrec : h[L]? = some (.loop r)
  out : ∃ (po : Option Addr) (co : Nat), h[q15]? = some (.cells #[.slice po n co] 24 (0, 0)) ∧ VerS h 36 po n co l ∧ New h0.size po

theorem walk2 {h0 : Heap} {c : Nat} {p pb : Option Addr} {n cap cb : Nat} {l : List Ver} {q6 q9 q11 q15 q D L : Nat} {r : Loop} {v82 : Value} (C : ChainAt h0 c p n cap l) (hn : n ≤ 2 ^ 24)
    (b11 : h0[q11]? = some (.cells #[.slice pb n cb] 24 (0, 0))) (b9 : h0[q9]? = some (.cells #[.func (.func 30) #[] #[.pointer (some ⟨q, 0, none⟩)]] 28 (0, 0))) (bq : h0[q]? = some (.cells #[.pointer (some ⟨c, 0, none⟩)] 23 (0, 0))) (l15 : q15 < h0.size) (lL : L < h0.size)
    (w : q11 ≠ q15 ∧ q11 ≠ L ∧ q ≠ q15 ∧ q ≠ L ∧ c ≠ q15 ∧ c ≠ L ∧ q15 ≠ L ∧ q9 ≠ q15 ∧ q9 ≠ L) (wp : ∀ x ∈ blk p, x ≠ q15 ∧ x ≠ L) (hpl : ∀ x ∈ blk p, x < h0.size)
    (hr : LoopIs r (FrL 115 [(6, .pointer (some ⟨q6, 0, none⟩)), (9, .pointer (some ⟨q9, 0, none⟩)), (11, .pointer (some ⟨q11, 0, none⟩)), (15, .pointer (some ⟨q15, 0, none⟩)), (82, v82)]) #[83, 84] (codeAt (bodyC Try.f3) [1, 1, 1, 1, 1, 1, 1, 1, 1, 1, 0, 1, 0, 0]) (codeAt (bodyC Try.f3) [1, 1, 1, 1, 1, 1, 1, 1, 1, 1, 0, 1, 0, 1]) D) :
    Walkable c q L (AgainI h0 l n q15 L r) (AgainD h0 l n q15 L r) where
  cell := fun m last h I => by rw [cell_of (I.kept.some bq (by simp; omega))]; rfl
  chain := fun m last h I => ⟨p, n, cap, l, C.kept I.kept (by simp; omega) fun x hx hm => by have := wp x hx; simp at hm; omega⟩
  stab := fun m last h h' I kp => by
    obtain ⟨i, po, co, cc, hm, hb, s, f, nw⟩ := I.out
    exact ⟨I.kept.trans kp (by simp), kp.some I.lrec (by simp), i, po, co, cc, hm, kp.some hb (by simp), SlC.kept s kp (by simp), f.kept kp (by simp), nw⟩
  done := fun m last h p' n' cap' l' I C' cc => by
    obtain ⟨i, po, co, ci, hm, hb, s, f, nw⟩ := I.out
    have C0 := C.kept I.kept (by simp; omega) fun x hx hm => by have := wp x hx; simp at hm; omega
    have e1 := C'.obj.symm.trans C0.obj
    have e2 : p' = p ∧ n' = n ∧ cap' = cap := by
      simp only [Option.some.injEq, Obj.cells.injEq] at e1
      simpa using congrArg Array.toList e1.1
    obtain ⟨rfl, rfl, rfl⟩ := e2
    have el : l' = l := same_row C'.row C0.row
    subst el
    have hlen := C'.len
    have : i = n' := by rw [ci.unique cc, hlen]
    subst this
    rw [← hlen, List.take_length, hlen] at s
    exact ⟨I.kept, I.lrec, po, co, hb, s, nw⟩
  round := fun m last h v k p' n' cap' l' I C' cc hv => by
    obtain ⟨i, po, co, ci, hm, hb, s, f, nw⟩ := I.out
    have C0 := C.kept I.kept (by simp; omega) fun x hx hm => by have := wp x hx; simp at hm; omega
    have e1 := C'.obj.symm.trans C0.obj
    have e2 : p' = p ∧ n' = n ∧ cap' = cap := by
      simp only [Option.some.injEq, Obj.cells.injEq] at e1
      simpa using congrArg Array.toList e1.1
    obtain ⟨rfl, rfl, rfl⟩ := e2
    have el : l' = l := same_row C'.row C0.row
    subst el
    have := ci.unique cc
    subst this
    have hlen := C'.len
    have hin : i < n' := by rw [← hlen]; exact (List.getElem?_eq_some_iff.1 hv).1
    have hsz := I.kept.size
    refine round_of_dn (M := M3) (args := [_, _]) I.lrec hr.params hr.assign hr.body hr.tmps rfl (by kernel_rfl) ?_
    have hfr : putArgs (FrL 115 [(6, .pointer (some ⟨q6, 0, none⟩)), (9, .pointer (some ⟨q9, 0, none⟩)), (11, .pointer (some ⟨q11, 0, none⟩)), (15, .pointer (some ⟨q15, 0, none⟩)), (82, v82)]) [83, 84] [.int .i64 v.1, .string v.2] =
        FrL 115 [(6, .pointer (some ⟨q6, 0, none⟩)), (9, .pointer (some ⟨q9, 0, none⟩)), (11, .pointer (some ⟨q11, 0, none⟩)), (15, .pointer (some ⟨q15, 0, none⟩)), (82, v82), (83, .int .i64 v.1), (84, .string v.2)] := by kernel_rfl
    show dn _ _ _ _ (putArgs _ [83, 84] _) _ _ _
    rw [hfr, vc3_11111111110100]
    have lLh := lt_of_get I.lrec
    refine ⟨r, I.lrec, hr.state, ?_⟩
    have kL := Kept.setObj (h := h) L (.loop { r with state := .busy })
    have hrec1 : (h.setIfInBounds L (.loop { r with state := .busy }))[L]? = some (.loop { r with state := .busy }) := setObj_eq lLh
    have sz1 : (h.setIfInBounds L (.loop { r with state := .busy })).size = h.size := by simp
    generalize hh1 : h.setIfInBounds L (.loop { r with state := .busy }) = h1 at kL hrec1 sz1 ⊢
    rw [vc3_11111111110101]
    have oL : ∀ x ∈ blk po, x ≠ L ∧ x ≠ q15 ∧ h0.size ≤ x := fun x hx => by have := nw.mem x hx; omega
    have K1 : Kept [q15, L] h0 h1 := I.kept.trans kL fun x hx _ => by simp at hx; simp [hx]
    have hb1 := kL.some hb (by simp; omega)
    have s1 : VerS h1 36 po i co (l'.take i) := SlC.kept s kL fun a ha hm' => (oL _ (mem_blk.2 ⟨a, ha, rfl⟩)).1 (by simpa using hm')
    have f1 := f.kept kL fun a ha hm' => (oL _ (mem_blk.2 ⟨a, ha, rfl⟩)).1 (by simpa using hm')
    refine ⟨po, i, co, by rw [cell_of hb1]; rfl, ?_⟩
    refine push36 s1 f1 (by omega) fun h2 po2 co2 k2 s2 f2 hor => ⟨_, _, _, rfl, ?_⟩
    have hb2 := k2.some hb1 fun hm' => (oL _ hm').2.1 rfl
    have hrec2 := k2.some hrec1 fun hm' => (oL _ hm').1 rfl
    refine ⟨⟨_, by rw [cell_of hb2]; rfl⟩, frozen_of hb2 0, fun h3 hh3 => ?_⟩
    have k3 : Kept [q15] h2 h3 := hh3 ▸ Kept.setCell _ _ _
    have hb3 : h3[q15]? = some (.cells #[.slice po2 (i + 1) co2] 24 (0, 0)) := by rw [hh3, setCell_eq hb2]; rfl
    have nw2 : New h0.size po2 := by
      rcases hor with e | g
      · rw [e]; exact nw
      · exact fun a ha => by have := g a ha; omega
    have o2L : ∀ x ∈ blk po2, x ≠ L ∧ x ≠ q15 := fun x hx => by have := nw2.mem x hx; omega
    have K3 : Kept [q15, L] h0 h3 := (K1.trans k2 fun x hx hlt => by have := (oL x hx).2.2; omega).trans k3 fun x hx _ => by simp at hx; simp [hx]
    have s3 : VerS h3 36 po2 (i + 1) co2 (l'.take (i + 1)) := by
      have := SlC.kept s2 k3 fun a ha hm' => (o2L _ (mem_blk.2 ⟨a, ha, rfl⟩)).2 (by simpa using hm')
      rw [List.take_add_one, hv]; exact this
    have f3 : Free h3 po2 := f2.kept k3 fun a ha hm' => (o2L _ (mem_blk.2 ⟨a, ha, rfl⟩)).2 (by simpa using hm')
    have hrec3 := k3.some hrec2 (by simp; omega)
    have hreq : ({ ({ r with state := .busy } : Loop) with state := .ready, pending := none } : Loop) = r := by
      have h1 := hr.state; have h2 := hr.pending
      cases r; simp_all
    -- on with the walk
    have fin : ∀ h4, Kept [] h3 h4 → ∃ r', h4[L]? = some (.loop r') ∧ ((Value.bool true = .bool true ∧ ∃ m', m' < m ∧ AgainI h0 l' n' q15 L r m' v.1 (h4.setIfInBounds L (.loop { r' with state := .ready, pending := none }))) ∨ (Value.bool true = .bool false ∧ AgainD h0 l' n' q15 L r (h4.setIfInBounds L (.loop { r' with state := .ready, pending := none })))) := by
      intro h4 k4
      have hrec4 := k4.some hrec3 (by simp)
      have lL4 := lt_of_get hrec4
      have k5 := Kept.setObj (h := h4) L (.loop { ({ r with state := .busy } : Loop) with state := .ready, pending := none })
      refine ⟨_, hrec4, .inl ⟨rfl, n' - (i + 1), by omega, ?_⟩⟩
      exact ⟨(K3.trans k4 (by simp)).trans k5 (fun x hx _ => by simp at hx; simp [hx]), by rw [setObj_eq lL4, hreq], i + 1, po2, co2, cut_next C'.rise cc hv, rfl, k5.some (k4.some hb3 (by simp)) (by simp; omega), SlC.kept (SlC.kept s3 k4 (by simp)) k5 (fun a ha hm' => (o2L _ (mem_blk.2 ⟨a, ha, rfl⟩)).1 (by simpa using hm')), (f3.kept k4 (by simp)).kept k5 (fun a ha hm' => (o2L _ (mem_blk.2 ⟨a, ha, rfl⟩)).1 (by simpa using hm')), nw2⟩
    refine ⟨po2, _, co2, by rw [cell_of hb3]; rfl, pb, n', cb, by rw [cell_of (K3.some b11 (by simp; omega))]; rfl, ?_⟩
    refine BIf.neg (by simp; omega) ?_
    refine ⟨po2, _, co2, by rw [cell_of hb3]; rfl, ?_⟩
    refine BIf.intro (fun e => ?_) (fun e => ?_)
    · exact fin h3 (.refl _ _)
    · intro h4 hh4
      have k4 : Kept [] h3 h4 := hh4 ▸ Kept.push _
      have z4 : h4.size = h3.size + 1 := by rw [hh4]; simp
      have b18 : h4[h3.size]? = some (.cells #[.int .i64 0] 3 (0, 0)) := by rw [hh4]; exact get_push_eq
      refine ⟨⟨_, by rw [cell_of b18]; rfl⟩, frozen_of b18 0, fun h5 hh5 => ?_⟩
      have k5 : Kept [h3.size] h4 h5 := hh5 ▸ Kept.setCell _ _ _
      have z5 : h5.size = h4.size := by rw [hh5, setCell_size]
      have c18 : h5[h3.size]? = some (.cells #[.int .i64 0] 3 (0, 0)) := by rw [hh5, setCell_eq b18]; rfl
      have k45 : Kept [] h3 h5 := k4.trans k5 fun x hx hlt => by simp at hx; omega
      have K5 : Kept [q15, L] h0 h5 := K3.trans k45 (by simp)
      have z3 := K3.size
      refine ⟨_, by rw [cell_of (K5.some b9 (by simp; omega))]; rfl, ?_⟩
      unfold rangeG
      refine Guard.intro (by kernel_rfl) ⟨_, k45.some hrec3 (by simp), fun r3 hr3 => ?_⟩
      have k6 : Kept [] h5 (h5.push (.loop r3)) := Kept.push _
      have K6 : Kept [q15, L] h0 (h5.push (.loop r3)) := K5.trans k6 (by simp)
      have C6 := C.kept K6 (by simp; omega) fun x hx hm' => by have := wp x hx; simp at hm'; omega
      have lc := lt_of_get C.obj
      have l11 := lt_of_get b11
      have lq := lt_of_get bq
      have W3 := walk3 (h0 := h5.push (.loop r3)) (q18 := h3.size) (L := h5.size) (n := n') (pb := pb) (cb := cb) C6 (K6.some b11 (by simp; omega)) (K6.some bq (by simp; omega)) (by simp; omega) (by simp) (by omega) (fun x hx => by have := hpl x hx; omega) hr3
      refine call30 W3 (m := n' - 0) ⟨.refl _ _, get_push_eq, 0, ?_, rfl, k6.some c18 (by simp)⟩ fun h7 D7 => ?_
      · refine ⟨by omega, fun k hk => by omega, fun k hk v hv => ?_⟩
        have := C'.pos v (List.mem_of_getElem? hv); omega
      · refine ⟨r3, D7.lrec, by rw [hr3.state]; simp, ?_⟩
        have k7 : Kept [] h3 h7 := (k45.trans k6 (by simp)).trans D7.kept fun x hx hlt => by simp at hx; omega
        have k8 := Kept.setObj (h := h7) h5.size (.loop { r3 with state := .exhausted })
        have k38 : Kept [] h3 (h7.setIfInBounds h5.size (.loop { r3 with state := .exhausted })) := k7.trans k8 fun x hx hlt => by simp at hx; omega
        rw [hr3.pending] at k8 k38 ⊢
        simp only []
        rw [kx_normal, ks_normal, vc3_11111111110101011111]
        refine ⟨_, by rw [cell_of (k8.some D7.at_ (by simp; omega))]; rfl, pb, n', cb, by rw [cell_of ((K3.trans k38 (by simp)).some b11 (by simp; omega))]; rfl, ?_⟩
        refine BIf.neg (by simp) ?_
        exact fin _ k38
end Go.Proofs.Ytabidhoaginokaa
