/-
  all: what a walk gives, gathered.
-/
import Derived.Test.YtabidhoaginokaaVcXA
namespace Go.Proofs.Ytabidhoaginokaa
open Go Go.Proofs Go.Proofs.Ytabidhoaginokaa.Vc
set_option linter.unusedVariables false
set_option linter.unusedSimpArgs false
set_option maxRecDepth 100000

theorem exit_collected {P : Program} {fn : Func} {Q : Value → Heap → Prop} {fr : Fr} {r : Nat} {a : Array Value} {ds : List Deferred} {h : Heap} (hr : h[r]? = some (.deferred (some []))) (x : exitH P fn Q .ret fr ds (h.setIfInBounds r (.deferred none))) :
    exitH P fn Q .ret fr ({ target := .collected r, args := a } :: ds) h := ⟨hr, x⟩

theorem vcells_inj : ∀ {a b : List Ver}, vcells a = vcells b → a = b
  | [], [], _ => rfl
  | [], v :: b, h => by simp [vcells] at h
  | v :: a, [], h => by simp [vcells] at h
  | v :: a, u :: b, h => by
    simp only [vcells, List.cons.injEq, Value.int.injEq, Value.string.injEq, true_and] at h
    rw [Prod.ext h.1 h.2.1, vcells_inj h.2.2]
theorem same_row {h : Heap} {e : TypeId} {p : Option Addr} {n c : Nat} {l l' : List Ver} (s : VerS h e p n c l) (s' : VerS h e p n c l') : l = l' := by
  refine vcells_inj (List.ext_getElem? fun i => ?_)
  rcases Nat.lt_or_ge i (n * 2) with g | g
  · obtain ⟨b, o, rfl⟩ := SlC.ptr s (by omega)
    rw [← SlC.cell s g, ← SlC.cell s' g]
  · rw [List.getElem?_eq_none (by rw [SlC.len s]; exact g), List.getElem?_eq_none (by rw [SlC.len s']; exact g)]
/-- What is so while 'all' gathers. -/
structure AllI (h0 : Heap) (c : Nat) (p : Option Addr) (n cap : Nat) (l : List Ver) (b3 b5 q B L : Nat) (most : Nat) (r : Loop) (m : Nat) (last : Int) (h : Heap) : Prop where
  chain : ChainAt h c p n cap l
  qc : h[q]? = some (.cells #[.pointer (some ⟨c, 0, none⟩)] 23 (0, 0))
  c3 : h[b3]? = some (.cells #[.int .i64 (most : Nat)] 3 (0, 0))
  lrec : h[L]? = some (.loop r)
  dblk : h[B]? = some (.deferred (some []))
  kept : Kept [] h0 h
  out : ∃ (i : Nat) (po : Option Addr) (co : Nat), Cut l last i ∧ m = n - i ∧ i ≤ most ∧ h[b5]? = some (.cells #[.slice po i co] 24 (0, 0)) ∧ VerS h 36 po i co (l.take i) ∧ Free h po ∧ New h0.size po ∧ (∀ x ∈ Vc.blk po, x ≠ q ∧ x ≠ b3 ∧ x ≠ L ∧ x ≠ B ∧ x ≠ b5)
structure AllD (h0 : Heap) (c : Nat) (p : Option Addr) (n cap : Nat) (l : List Ver) (b5 B L : Nat) (most : Nat) (h : Heap) : Prop where
  lrec : ∃ r, h[L]? = some (.loop r) ∧ r.state ≠ .busy ∧ (r.pending = none ∨ r.pending = some (.exit 0))
  dblk : h[B]? = some (.deferred (some []))
  kept : Kept [] h0 h
  out : ∃ (i : Nat) (po : Option Addr) (co : Nat), i = min n (most + 1) ∧ h[b5]? = some (.cells #[.slice po i co] 24 (0, 0)) ∧ VerS h 36 po i co (l.take i) ∧ (∀ x ∈ Vc.blk po, x ≠ L ∧ x ≠ B)

theorem all_walkable {h0 : Heap} {c : Nat} {p : Option Addr} {n cap : Nat} {l : List Ver} {b3 b5 q B L most : Nat} {r : Loop} {v15 : Value}
    (hn : n < 2 ^ 24) (n3 : h0.size ≤ b3) (n5 : h0.size ≤ b5) (nq : h0.size ≤ q) (nB : h0.size ≤ B) (nL : h0.size ≤ L) (hc : c < h0.size) (hpl : ∀ x ∈ blk p, x < h0.size)
    (d : b3 ≠ b5 ∧ b3 ≠ q ∧ b5 ≠ q ∧ B ≠ L ∧ b3 ≠ L ∧ b5 ≠ L ∧ q ≠ L ∧ b5 ≠ B)
    (hr : LoopIs r (FrL 29 [(3, .pointer (some ⟨b3, 0, none⟩)), (5, .pointer (some ⟨b5, 0, none⟩)), (15, v15)]) #[16, 17] (codeAt (bodyC Try.f11) [1, 1, 1, 1, 0, 1, 0, 0]) (codeAt (bodyC Try.f11) [1, 1, 1, 1, 0, 1, 0, 1]) B) :
    Walkable c q L (AllI h0 c p n cap l b3 b5 q B L most r) (AllD h0 c p n cap l b5 B L most) where
  cell := fun m last h I => by rw [cell_of I.qc]; rfl
  chain := fun m last h I => ⟨p, n, cap, l, I.chain⟩
  stab := fun m last h h' I k => by
    obtain ⟨i, po, co, cc, hm, hi, hb5, s, f, nw, ap⟩ := I.out
    exact ⟨I.chain.kept k (by simp) (by simp), k.some I.qc (by simp), k.some I.c3 (by simp), k.some I.lrec (by simp), k.some I.dblk (by simp), I.kept.trans k (by simp), i, po, co, cc, hm, hi, k.some hb5 (by simp), SlC.kept s k (by simp), f.kept k (by simp), nw, ap⟩
  done := fun m last h p' n' cap' l' I C cc => by
    obtain ⟨i, po, co, ci, hm, hi, hb5, s, f, nw, ap⟩ := I.out
    have e1 := C.obj.symm.trans I.chain.obj
    have e2 : p' = p ∧ n' = n ∧ cap' = cap := by
      simp only [Option.some.injEq, Obj.cells.injEq] at e1
      have := congrArg Array.toList e1.1
      simpa using this
    obtain ⟨rfl, rfl, rfl⟩ := e2
    have el : l' = l := same_row C.row I.chain.row
    subst el
    have := ci.unique cc
    have hlen := C.len
    exact ⟨⟨r, I.lrec, by rw [hr.state]; simp, .inl hr.pending⟩, I.dblk, I.kept, i, po, co, by omega, hb5, s, fun x hx => ⟨(ap x hx).2.2.1, (ap x hx).2.2.2.1⟩⟩
  round := fun m last h v k p' n' cap' l' I C cc hv => by
    obtain ⟨i, po, co, ci, hm, hi, hb5, s, f, nw, ap⟩ := I.out
    have e1 := C.obj.symm.trans I.chain.obj
    have e2 : p' = p ∧ n' = n ∧ cap' = cap := by
      simp only [Option.some.injEq, Obj.cells.injEq] at e1
      have := congrArg Array.toList e1.1
      simpa using this
    obtain ⟨rfl, rfl, rfl⟩ := e2
    have el : l' = l := same_row C.row I.chain.row
    subst el
    have hki := ci.unique cc
    subst hki
    have hlen := C.len
    have hin : i < n' := by rw [← hlen]; exact (List.getElem?_eq_some_iff.1 hv).1
    refine round_of_dn (M := M11) (args := [_, _]) I.lrec hr.params hr.assign hr.body hr.tmps rfl (by kernel_rfl) ?_
    have hfr : putArgs (FrL 29 [(3, .pointer (some ⟨b3, 0, none⟩)), (5, .pointer (some ⟨b5, 0, none⟩)), (15, v15)]) [16, 17] [.int .i64 v.1, .string v.2] =
        FrL 29 [(3, .pointer (some ⟨b3, 0, none⟩)), (5, .pointer (some ⟨b5, 0, none⟩)), (15, v15), (16, .int .i64 v.1), (17, .string v.2)] := by kernel_rfl
    show dn _ _ _ _ (putArgs _ [16, 17] _) _ _ _
    rw [hfr, vc11_11110100]
    have lL := lt_of_get I.lrec
    refine ⟨r, I.lrec, hr.state, ?_⟩
    have k0 := Kept.setObj (h := h) L (.loop { r with state := .busy })
    have hrec0 : (h.setIfInBounds L (.loop { r with state := .busy }))[L]? = some (.loop { r with state := .busy }) := setObj_eq lL
    rw [vc11_11110101]
    have hb50 := k0.some hb5 (by simp; omega)
    have s0 : VerS (h.setIfInBounds L (.loop { r with state := .busy })) 36 po i co (l'.take i) := SlC.kept s k0 fun a ha hm => (ap a.block (mem_blk.2 ⟨a, ha, rfl⟩)).2.2.1 (by simpa using hm)
    have f0 := f.kept k0 fun a ha hm => (ap a.block (mem_blk.2 ⟨a, ha, rfl⟩)).2.2.1 (by simpa using hm)
    refine ⟨po, i, co, by rw [cell_of hb50]; rfl, ?_⟩
    refine push36 s0 f0 (by omega) fun h1 po1 co1 k1 s1 f1 hor => ⟨_, _, _, rfl, ?_⟩
    have npo : ∀ x ∈ blk po, x ≠ q ∧ x ≠ b3 ∧ x ≠ L ∧ x ≠ B ∧ x ≠ b5 := ap
    have hb51 := k1.some hb50 fun hm => (ap _ hm).2.2.2.2 rfl
    refine ⟨⟨_, by rw [cell_of hb51]; rfl⟩, frozen_of hb51 0, fun h2 hh2 => ?_⟩
    have k2 : Kept [b5] h1 h2 := hh2 ▸ Kept.setCell _ _ _
    have hb52 : h2[b5]? = some (.cells #[.slice po1 (i + 1) co1] 24 (0, 0)) := by rw [hh2, setCell_eq hb51]; rfl
    refine ⟨po1, i + 1, co1, by rw [cell_of hb52]; rfl, most, ?_, ?_⟩
    · have := k2.some (k1.some (k0.some I.c3 (by simp; omega)) fun hm => (ap _ hm).2.1 rfl) (by simp; omega)
      rw [cell_of this]; rfl
    have sz0 : (h.setIfInBounds L (.loop { r with state := .busy })).size = h.size := by simp
    have ap1 : ∀ x ∈ blk po1, x ≠ q ∧ x ≠ b3 ∧ x ≠ L ∧ x ≠ B ∧ x ≠ b5 := by
      rcases hor with e | g
      · rw [e]; exact ap
      · intro x hx
        have := New.mem g x hx
        have := lt_of_get I.qc; have := lt_of_get I.c3; have := lt_of_get I.dblk; have := lt_of_get hb5
        omega
    have nw1 : New h0.size po1 := by
      rcases hor with e | g
      · rw [e]; exact nw
      · exact fun a ha => by have := g a ha; have := I.kept.size; omega
    have hrec2 : h2[L]? = some (.loop { r with state := .busy }) := k2.some (k1.some hrec0 fun hm => (ap _ hm).2.2.1 rfl) (by simp; omega)
    have lL2 := lt_of_get hrec2
    have hq2 : h2[q]? = some (.cells #[.pointer (some ⟨c, 0, none⟩)] 23 (0, 0)) := k2.some (k1.some (k0.some I.qc (by simp; omega)) fun hm => (ap _ hm).1 rfl) (by simp; omega)
    have hc32 : h2[b3]? = some (.cells #[.int .i64 (most : Nat)] 3 (0, 0)) := k2.some (k1.some (k0.some I.c3 (by simp; omega)) fun hm => (ap _ hm).2.1 rfl) (by simp; omega)
    have hB2 : h2[B]? = some (.deferred (some [])) := k2.some (k1.some (k0.some I.dblk (by simp; omega)) fun hm => (ap _ hm).2.2.2.1 rfl) (by simp; omega)
    have pnew : ∀ x ∈ blk p', x < h0.size := hpl
    have C2 : ChainAt h2 c p' n' cap' l' := by
      refine ((I.chain.kept k0 (by simp; omega) fun x hx hm => ?_).kept k1 (fun hm => ?_) fun x hx hm => ?_).kept k2 (by simp; omega) fun x hx hm => ?_
      · have := hpl x hx; simp at hm; omega
      · have := nw.mem c hm; omega
      · have := hpl x hx; have := nw.mem x hm; omega
      · have := hpl x hx; simp at hm; omega
    have s2 : VerS h2 36 po1 (i + 1) co1 (l'.take (i + 1)) := by
      have := SlC.kept s1 k2 fun a ha hm => (ap1 a.block (mem_blk.2 ⟨a, ha, rfl⟩)).2.2.2.2 (by simpa using hm)
      rw [List.take_add_one, hv]; exact this
    have f2 : Free h2 po1 := f1.kept k2 fun a ha hm => (ap1 a.block (mem_blk.2 ⟨a, ha, rfl⟩)).2.2.2.2 (by simpa using hm)
    have kp2 : Kept [] h0 h2 := ((I.kept.trans k0 fun x hx hlt => by simp at hx; omega).trans k1 fun x hx hlt => by have := nw.mem x hx; omega).trans k2 fun x hx hlt => by simp at hx; omega
    refine BIf.intro (fun e => ?_) (fun e => ?_)
    · have e : ((i + 1 : Nat) : Int) > (most : Int) := by simpa using e
      refine ⟨_, hrec2, .inr ⟨rfl, ?_⟩⟩
      have k3 := Kept.setObj (h := h2) L (.loop { r with state := .done, pending := some (.exit 0) })
      refine ⟨⟨_, setObj_eq lL2, by simp, .inr rfl⟩, k3.some hB2 (by simp; omega), kp2.trans k3 (fun x hx hlt => by simp at hx; omega), i + 1, po1, co1, by omega, k3.some hb52 (by simp; omega), SlC.kept s2 k3 (fun a ha hm => (ap1 a.block (mem_blk.2 ⟨a, ha, rfl⟩)).2.2.1 (by simpa using hm)), fun x hx => ⟨(ap1 x hx).2.2.1, (ap1 x hx).2.2.2.1⟩⟩
    · have e : ¬ ((i + 1 : Nat) : Int) > (most : Int) := of_decide_eq_false e
      refine ⟨_, hrec2, .inl ⟨rfl, n' - (i + 1), by omega, ?_⟩⟩
      have k3 := Kept.setObj (h := h2) L (.loop { r with state := .ready, pending := none })
      have hreq : ({ ({ r with state := .busy } : Loop) with state := .ready, pending := none } : Loop) = r := by
        have h1 := hr.state; have h2 := hr.pending
        cases r; simp_all
      refine ⟨C2.kept k3 (by simp; omega) (fun x hx hm => by have := hpl x hx; simp at hm; omega), k3.some hq2 (by simp; omega), k3.some hc32 (by simp; omega), ?_, k3.some hB2 (by simp; omega), kp2.trans k3 (fun x hx hlt => by simp at hx; omega), i + 1, po1, co1, cut_next C.rise cc hv, rfl, by omega, k3.some hb52 (by simp; omega),
        SlC.kept s2 k3 (fun a ha hm => (ap1 a.block (mem_blk.2 ⟨a, ha, rfl⟩)).2.2.1 (by simpa using hm)), f2.kept k3 (fun a ha hm => (ap1 a.block (mem_blk.2 ⟨a, ha, rfl⟩)).2.2.1 (by simpa using hm)), nw1, ap1⟩
      rw [setObj_eq lL2, hreq]

theorem call11 {h : Heap} {c : Nat} {p : Option Addr} {n cap : Nat} {l : List Ver} {most : Nat} {Q : Value → Heap → Prop} (hn : n < 2 ^ 24) (C : ChainAt h c p n cap l)
    (k : ∀ h' po co, Kept [] h h' → VerS h' 36 po (min n (most + 1)) co (l.take (min n (most + 1))) → Q (.slice po (min n (most + 1)) co) h') :
    CallH Try.prog 11 #[.pointer (some ⟨c, 0, none⟩), .int .i64 (most : Nat)] h Q := by
  refine call_of_fn (M := M11) (args := [_, _]) Try.func11 rfl rfl (Nat.le_of_ble_eq_true rfl) ?_
  rw [vc11]
  intro h1 hh1 h2 hh2
  have k1 : Kept [] h h1 := hh1 ▸ Kept.push _
  have k2 : Kept [] h1 h2 := hh2 ▸ Kept.push _
  have z1 : h1.size = h.size + 1 := by rw [hh1]; simp
  have z2 : h2.size = h.size + 2 := by rw [hh2]; simp [z1]
  have b3 : h2[h.size]? = some (.cells #[.int .i64 (most : Nat)] 3 (0, 0)) := k2.some (by rw [hh1]; exact get_push_eq) (by simp)
  have b5 : h2[h1.size]? = some (.cells #[.slice none 0 0] 24 (0, 0)) := by rw [hh2]; exact get_push_eq
  refine call7 fun h3 hh3 => ?_
  have k3 : Kept [] h2 h3 := hh3 ▸ Kept.push _
  have z3 : h3.size = h.size + 3 := by rw [hh3]; simp [z2]
  have bq : h3[h2.size]? = some (.cells #[.pointer (some ⟨c, 0, none⟩)] 23 (0, 0)) := by rw [hh3]; exact get_push_eq
  refine func_nil_sem Try.underlying28 ⟨_, rfl, BIf.neg rfl ?_⟩
  unfold rangeG
  refine Guard.intro (by kernel_rfl) fun r hr => ?_
  have k4 : Kept [] h3 ((h3.push (.deferred (some []))).push (.loop r)) := (Kept.push _).trans (Kept.push _) (by simp)
  have bB : ((h3.push (.deferred (some []))).push (.loop r))[h3.size]? = some (.deferred (some [])) := by
    rw [get_push_lt (by simp)]; exact get_push_eq
  have bL : ((h3.push (.deferred (some []))).push (.loop r))[h3.size + 1]? = some (.loop r) := by
    have : (h3.push (.deferred (some []))).size = h3.size + 1 := by simp
    rw [← this]; exact get_push_eq
  have kk : Kept [] h h3 := (k1.trans k2 (by simp)).trans k3 (by simp)
  have hcl := lt_of_get C.obj
  have W := all_walkable (h0 := h) (c := c) (p := p) (n := n) (cap := cap) (l := l) (b3 := h.size) (b5 := h1.size) (q := h2.size) (B := h3.size) (L := h3.size + 1) (most := most) (r := r) hn (by omega) (by omega) (by omega) (by omega) (by omega) hcl C.row.blk_lt (by omega) hr
  refine call30 W (m := n - 0) ⟨C.kept (kk.trans k4 (by simp)) (by simp) (by simp), k4.some bq (by simp), k4.some (k3.some b3 (by simp)) (by simp), bL, bB, kk.trans k4 (by simp), 0, none, 0, ?_, rfl, by omega, k4.some (k3.some b5 (by simp)) (by simp), by rw [List.take_zero]; exact SlC.nil _ _ _, Free.none, by simp [New], by simp [blk]⟩ ?_
  · refine ⟨by omega, fun k hk => by omega, fun k hk v hv => ?_⟩
    have := C.pos v (List.mem_of_getElem? hv); omega
  · intro h5 D
    obtain ⟨r', hr', hst, hp⟩ := D.lrec
    obtain ⟨i, po, co, hi, hb5, s, ap⟩ := D.out
    have hLs : h3.size + 1 < h5.size := lt_of_get hr'
    have k6 := Kept.setObj (h := h5) (h3.size + 1) (.loop { r' with state := .exhausted })
    have tail : dn Try.prog M11 none (codeAt (bodyC Try.f11) [1, 1, 1, 1, 1]) (FrL 29 [(3, .pointer (some ⟨h.size, 0, none⟩)), (5, .pointer (some ⟨h1.size, 0, none⟩)), (15, .func (.func 30) #[] #[.pointer (some ⟨h2.size, 0, none⟩)])]) [{ target := .collected h3.size, args := #[] }]
        (h5.setIfInBounds (h3.size + 1) (.loop { r' with state := .exhausted })) (exitH Try.prog Try.f11 Q) := by
      rw [vc11_11111]
      have hb6 := k6.some hb5 (by simp; omega)
      refine ⟨po, i, co, by rw [cell_of hb6]; rfl, ?_⟩
      refine exit_collected (k6.some D.dblk (by simp)) ?_
      have k7 := Kept.setObj (h := h5.setIfInBounds (h3.size + 1) (.loop { r' with state := .exhausted })) h3.size (.deferred none)
      rw [ret11]
      have s7 := SlC.kept (SlC.kept s k6 fun a ha hm => (ap a.block (mem_blk.2 ⟨a, ha, rfl⟩)).1 (by simpa using hm)) k7 fun a ha hm => (ap a.block (mem_blk.2 ⟨a, ha, rfl⟩)).2 (by simpa using hm)
      subst hi
      exact k _ po co ((D.kept.trans k6 fun x hx hlt => by simp at hx; omega).trans k7 fun x hx hlt => by simp at hx; omega) s7
    refine ⟨r', hr', hst, ?_⟩
    rcases hp with e | e
    · rw [e]; rw [e] at tail; exact tail
    · rw [e]
      simp only [jumpK]
      rw [kx_exit, ks_normal]; rw [e] at tail; exact tail
end Go.Proofs.Ytabidhoaginokaa
