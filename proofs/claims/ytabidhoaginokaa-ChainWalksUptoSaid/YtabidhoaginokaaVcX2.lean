/-
  THE CHAIN: above, Clone, Prune, Put, All, New.
-/
import Derived.Test.YtabidhoaginokaaVcW
import Derived.Test.YtabidhoaginokaaVcX1
namespace Go.Proofs.Ytabidhoaginokaa
open Go Go.Proofs Go.Proofs.Ytabidhoaginokaa.Vc
set_option linter.unusedVariables false
set_option linter.unusedSimpArgs false
set_option maxRecDepth 100000

theorem info77 : Try.prog.info? 77 = some Try.t77 := by kernel_rfl
theorem info36 : Try.prog.info? 36 = some Try.t36 := by kernel_rfl

/-- A chain, its versions. -/
structure ChainAt (h : Heap) (c : Nat) (p : Option Addr) (n cap : Nat) (l : List Ver) : Prop where
  obj : h[c]? = some (.cells #[.slice p n cap] 75 (0, 0))
  row : VerS h 77 p n cap l
  free : Free h p
  apart : c ∉ blk p
  rise : Rising l
  pos : ∀ v ∈ l, 0 ≤ v.1
  few : n ≤ 2 ^ 25
theorem ChainAt.kept {h h' : Heap} {S : List Nat} {c : Nat} {p : Option Addr} {n cap : Nat} {l : List Ver} (C : ChainAt h c p n cap l) (k : Kept S h h') (hc : c ∉ S) (hp : ∀ r ∈ blk p, r ∉ S) : ChainAt h' c p n cap l where
  obj := k.some C.obj hc
  row := SlC.kept C.row k fun a ha => hp _ (mem_blk.2 ⟨a, ha, rfl⟩)
  free := C.free.kept k fun a ha => hp _ (mem_blk.2 ⟨a, ha, rfl⟩)
  apart := C.apart
  rise := C.rise
  pos := C.pos
  few := C.few
theorem ChainAt.cell {h : Heap} {c : Nat} {p : Option Addr} {n cap : Nat} {l : List Ver} (C : ChainAt h c p n cap l) : cellH h ⟨c, 0, none⟩ = some (.slice p n cap) := by rw [cell_of C.obj]; rfl
theorem ChainAt.len {h : Heap} {c : Nat} {p : Option Addr} {n cap : Nat} {l : List Ver} (C : ChainAt h c p n cap l) : l.length = n := C.row.len

theorem call31 {h : Heap} {c : Nat} {p : Option Addr} {n cap : Nat} {l : List Ver} {m : Int} {Q : Value → Heap → Prop} (C : ChainAt h c p n cap l)
    (k : ∀ i h', Kept [] h h' → Cut l m i → Q (.int .i64 (i : Nat)) h') : CallH Try.prog 31 #[.pointer (some ⟨c, 0, none⟩), .int .i64 m] h Q := by
  refine call_of_fn (M := M31) (args := [_, _]) Try.func31 rfl rfl (Nat.le_of_ble_eq_true rfl) ?_
  rw [vc31]
  refine ⟨c, 0, rfl, p, n, cap, C.cell, ?_⟩
  exact call45 C.row C.rise (by have := C.few; omega) fun i b h' kp cc => ⟨_, _, rfl, k i h' kp cc⟩

/-- Clone: a row of its own. -/
theorem call47 {h : Heap} {p : Option Addr} {n c : Nat} {l : List Ver} {Q : Value → Heap → Prop} (s : VerS h 77 p n c l) (hn : n ≤ 2 ^ 25)
    (k : ∀ h' p' c', Kept [] h h' → VerS h' 77 p' n c' l → Free h' p' → (∀ a, p' = some a → h.size ≤ a.block) → Q (.slice p' n c') h') : CallH Try.prog 47 #[.slice p n c] h Q := by
  refine call_of_fn (M := M47) (args := [_]) Try.func47 rfl rfl (Nat.le_of_ble_eq_true rfl) ?_
  rw [vc47]
  refine slice_nil_sem Try.underlying73 ⟨_, rfl, ?_⟩
  refine BIf.intro (fun e => ?_) (fun e => ?_)
  · cases p with
    | some a => cases e
    | none =>
      have h1 := s.1; have hc := s.2.2; simp only at hc
      have e1 : n = 0 := by omega
      subst e1
      have e3 : l = [] := by simpa using s.len
      subst e3
      exact k h none 0 (.refl _ _) (SlC.nil _ _ _) Free.none (by simp)
  · intro h' hh
    have kp : Kept [] h h' := hh ▸ Kept.push _
    have s' : VerS h' 77 p n c l := SlC.kept s kp (by simp)
    have hsz : h'.size = h.size + 1 := by rw [hh]; simp
    have s0 : SlC h' 77 2 (some ⟨h.size, 0, none⟩) 0 0 [] := ⟨Nat.le_refl _, rfl, rfl, #[], (77, 0, 0), by rw [hh]; exact get_push_eq, by simp, fun i hi => by omega⟩
    have f0 : Free h' (some ⟨h.size, 0, none⟩) := by intro a ha; cases ha; exact ⟨#[], 77, by rw [hh]; exact get_push_eq⟩
    refine append_own (i := Try.t77) Try.underlying73 Try.underlying73 (by simp) info77 rfl rfl (by decide) s0 s' (by omega) (vcells_cell l) f0 ?_
    intro h'' p' c' kp' hs hf hor
    refine ⟨p', _, c', rfl, ?_⟩
    have hfresh : ∀ a, p' = some a → h.size ≤ a.block := by
      rintro a rfl
      rcases hor with e | g
      · cases e; exact Nat.le_refl _
      · have := g a rfl; omega
    have kk : Kept [] h h'' := kp.trans kp' (fun r hr hlt => by simp [blk] at hr; omega)
    have hs2 : VerS h'' 77 p' n c' l := by have := hs; rw [Nat.zero_add, List.nil_append] at this; exact this
    have := k h'' p' c' kk hs2 hf hfresh
    simpa using this

theorem vcells_drop : ∀ (l : List Ver) (k : Nat), vcells (l.drop k) = (vcells l).drop (k * 2)
  | l, 0 => by simp
  | [], k + 1 => by simp [vcells]
  | v :: r, k + 1 => by
    rw [show (k + 1) * 2 = k * 2 + 1 + 1 by omega]
    simp only [List.drop_succ_cons, vcells]
    exact vcells_drop r k

/-- Prune: what counts at no number from m on is forgotten: all below the place of the first above m, but the last of them. -/
theorem call33 {h : Heap} {c : Nat} {p : Option Addr} {n cap : Nat} {l : List Ver} {m : Int} {Q : Value → Heap → Prop} (C : ChainAt h c p n cap l)
    (k : ∀ i h' p' n' cap', Cut l m i → Kept [c] h h' → ChainAt h' c p' n' cap' (l.drop (i - 1)) → (p' = p ∨ ∀ a, p' = some a → h.size ≤ a.block) → Q (.int .i64 (i - 1 : Nat)) h') :
    CallH Try.prog 33 #[.pointer (some ⟨c, 0, none⟩), .int .i64 m] h Q := by
  refine call_of_fn (M := M33) (args := [_, _]) Try.func33 rfl rfl (Nat.le_of_ble_eq_true rfl) ?_
  rw [vc33]
  refine call31 C fun i h1 k1 cc => ⟨_, rfl, ?_⟩
  have C1 := C.kept k1 (by simp) (by simp)
  have hfew := C.few
  have hlen := C.len
  have hle := cc.le
  refine BIf.intro (fun e => ?_) (fun e => ?_)
  · have e : (i : Int) < 2 := by simpa using e
    have := k i h1 p n cap cc (k1.of (by simp)) (by rw [show i - 1 = 0 by omega, List.drop_zero]; exact C1) (.inl rfl)
    rw [show i - 1 = 0 by omega] at this
    exact this
  · have e : ¬ (i : Int) < 2 := by simpa using e
    have hw : IntKind.wrap .i64 ((i : Int) - 1) = ((i - 1 : Nat) : Int) := by rw [wrapI _ (by omega) (by omega)]; omega
    rw [hw]
    refine ⟨c, 0, rfl, p, n, cap, C1.cell, ?_⟩
    have hcap := C1.row.1
    refine slice_lo_sem Try.underlying73 info77 (by omega) hcap ?_
    refine ⟨_, _, _, rfl, ?_⟩
    have s2 : VerS h1 77 (if cap = i - 1 then p else p.map (·.add ((i - 1) * Try.t77.size))) (n - (i - 1)) (cap - (i - 1)) (l.drop (i - 1)) := by
      have := slc_lo (lo := i - 1) C1.row (by omega)
      unfold VerS
      rw [vcells_drop]
      exact this
    refine call47 s2 (by omega) fun h2 p' c' k2 s3 f3 fresh => ⟨_, _, _, rfl, ?_⟩
    have C2 := C1.kept k2 (by simp) (by simp)
    refine ⟨c, 0, rfl, ⟨_, C2.cell⟩, frozen_of C2.obj 0, ?_⟩
    intro h3 hh
    have k3 : Kept [c] h2 h3 := hh ▸ Kept.setCell _ _ _
    have hc2 : c < h1.size := lt_of_get C1.obj
    have hnb : c ∉ blk p' := by
      intro hm
      obtain ⟨a, ha, e⟩ := mem_blk.1 hm
      have := fresh a ha; omega
    refine k i h3 p' (n - (i - 1)) c' cc (((k1.trans k2 (by simp)).of (S := [c]) (by simp)).trans k3 (by simp)) ⟨?_, ?_, ?_, hnb, ?_, ?_, by omega⟩ (.inr fun a ha => Nat.le_trans k1.size (fresh a ha))
    · rw [hh, setCell_eq C2.obj]; rfl
    · exact SlC.kept s3 k3 fun a ha hm => by simp at hm; exact hnb (mem_blk.2 ⟨a, ha, hm⟩)
    · exact f3.kept k3 fun a ha hm => by simp at hm; exact hnb (mem_blk.2 ⟨a, ha, hm⟩)
    · exact C.rise.sublist (List.drop_sublist _ _)
    · exact fun v hv => C.pos v (List.mem_of_mem_drop hv)

/-- Put's own question. -/
def Refused (l : List Ver) (x : Int) : Prop := x < 0 ∨ ∃ v, l[l.length - 1]? = some v ∧ x ≤ v.1
theorem put_rest {h : Heap} {c : Nat} {p : Option Addr} {n cap : Nat} {l : List Ver} {x : Int} {s : ByteArray} {Q : Value → Heap → Prop} (C : ChainAt h c p n cap l) (hn : n < 2 ^ 25) (hnr : ¬ Refused l x)
    (k : ∀ h' p' cap', Kept (c :: blk p) h h' → ChainAt h' c p' (n + 1) cap' (l ++ [(x, s)]) → (p' = p ∨ ∀ a, p' = some a → h.size ≤ a.block) → Q .nilIface h') :
    ∃ (p : Option Addr), ∃ (n : Nat), ∃ (c_1 : Nat), cellH h { block := c, off := 0 : Addr } = some (Value.slice p n c_1) ∧ ∀ (h' : Array Obj), h' = Array.push h (Obj.cells #[Value.int IntKind.i64 x, Value.string s] 77) →
      semH Try.prog (builtinG Builtin.append #[73, 73] 73 #[Value.slice p n c_1, Value.slice (some { block := Array.size h, off := 0 : Addr }) 1 1]) h' fun (v : Value) (h : Heap) => ∃ (p : Option Addr), ∃ (n : Nat), ∃ (c_1 : Nat), v = Value.slice p n c_1 ∧ ∃ (b : Nat), ∃ (o : Nat), some { block := c, off := 0 : Addr } = some { block := b, off := o : Addr } ∧ (∃ (u : Value), cellH h { block := b, off := o : Addr } = some u) ∧ frozenH h { block := b, off := o : Addr } = false ∧ ∀ (h' : Heap), h' = setCellH h { block := b, off := o : Addr } (Value.slice p n c_1) → Q Value.nilIface h' := by
  refine ⟨p, n, cap, C.cell, ?_⟩
  intro h1 hh
  have k1 : Kept [] h h1 := hh ▸ Kept.push _
  have C1 := C.kept k1 (by simp) (by simp)
  have sz : h1.size = h.size + 1 := by rw [hh]; simp
  have s2 : SlC h1 77 2 (some ⟨h.size, 0, none⟩) 1 1 (vcells [(x, s)]) :=
    ⟨Nat.le_refl _, rfl, rfl, #[.int .i64 x, .string s], (77, 0, 0), by rw [hh]; exact get_push_eq, by simp, fun i hi => by
      match i, hi with
      | 0, _ => rfl
      | 1, _ => rfl⟩
  refine append_own (i := Try.t77) Try.underlying73 Try.underlying73 (by simp) info77 rfl rfl (by decide) C1.row s2 (by omega) (vcells_cell _) C1.free ?_
  intro h2 p' cap' k2 s3 f3 hor
  have s4 : VerS h2 77 p' (n + 1) cap' (l ++ [(x, s)]) := by have := s3; rw [← vcells_app] at this; exact this
  have hcb := C.apart
  have hc1 : c < h1.size := lt_of_get C1.obj
  have C2 : h2[c]? = some (.cells #[.slice p n cap] 75 (0, 0)) := k2.some C1.obj hcb
  have hnb : c ∉ blk p' := by
    rcases hor with rfl | g
    · exact hcb
    · intro hm
      obtain ⟨a, ha, e⟩ := mem_blk.1 hm
      have := g a ha; omega
  refine ⟨_, _, _, rfl, c, 0, rfl, ⟨_, by rw [cell_of C2]; rfl⟩, frozen_of C2 0, ?_⟩
  intro h3 hh3
  have k3 : Kept [c] h2 h3 := hh3 ▸ Kept.setCell _ _ _
  refine k h3 p' cap' ?_ ⟨?_, ?_, ?_, hnb, ?_, ?_, by omega⟩ ?_
  · refine ((k1.of (S := c :: blk p) (by simp)).trans k2 (fun r hr _ => ?_)).trans k3 (fun r hr _ => ?_)
    · exact List.mem_cons_of_mem _ hr
    · simp at hr; simp [hr]
  · rw [hh3, setCell_eq C2]; rfl
  · exact SlC.kept s4 k3 fun a ha hm => by simp at hm; exact hnb (mem_blk.2 ⟨a, ha, hm⟩)
  · exact f3.kept k3 fun a ha hm => by simp at hm; exact hnb (mem_blk.2 ⟨a, ha, hm⟩)
  · refine List.pairwise_append.2 ⟨C.rise, by simp, fun a ha b hb => ?_⟩
    simp at hb; subst hb
    apply Classical.byContradiction
    intro hlt
    refine hnr (.inr ?_)
    obtain ⟨j, hj, rfl⟩ := List.mem_iff_getElem.1 ha
    refine ⟨l[l.length - 1], List.getElem?_eq_getElem (by omega), ?_⟩
    rcases Nat.lt_or_ge j (l.length - 1) with g | g
    · have := C.rise.lt g (List.getElem?_eq_getElem hj) (List.getElem?_eq_getElem (by omega)); simp only at hlt; omega
    · have : j = l.length - 1 := by omega
      subst this; simp only at hlt; omega
  · intro v hv
    rcases List.mem_append.1 hv with hv | hv
    · exact C.pos v hv
    · simp at hv; subst hv
      apply Classical.byContradiction
      intro hlt; exact hnr (.inl (by simp only at hlt; omega))
  · rcases hor with e | g
    · exact .inl e
    · exact .inr fun a ha => by have := g a ha; omega

theorem call34 {h : Heap} {c : Nat} {p : Option Addr} {n cap : Nat} {l : List Ver} {x : Int} {s : ByteArray} {Q : Value → Heap → Prop} (C : ChainAt h c p n cap l) (hn : n < 2 ^ 25)
    (k1 : Refused l x → Q (.iface 92 (.int .i64 1)) h)
    (k2 : ¬ Refused l x → ∀ h' p' cap', Kept (c :: blk p) h h' → ChainAt h' c p' (n + 1) cap' (l ++ [(x, s)]) → (p' = p ∨ ∀ a, p' = some a → h.size ≤ a.block) → Q .nilIface h') :
    CallH Try.prog 34 #[.pointer (some ⟨c, 0, none⟩), .int .i64 x, .string s] h Q := by
  refine call_of_fn (M := M34) (args := [_, _, _]) Try.func34 rfl rfl (Nat.le_of_ble_eq_true rfl) ?_
  rw [vc34]
  have hlen := C.len
  refine ⟨c, 0, rfl, p, n, cap, C.cell, ?_⟩
  refine BIf.intro (fun e => k1 (.inl (by simpa using e))) (fun e => ?_)
  have hx : ¬ x < 0 := by simpa using e
  refine BIf.intro (fun e => ?_) (fun e => ?_)
  · have e : 0 < n := by have : (n : Int) > 0 := by simpa using e
                         omega
    have hw : IntKind.wrap .i64 ((n : Int) - 1) = ((n - 1 : Nat) : Int) := by rw [wrapI _ (by omega) (by omega)]; omega
    rw [hw]
    obtain ⟨v, hv⟩ : ∃ v, l[n - 1]? = some v := ⟨_, List.getElem?_eq_getElem (by omega)⟩
    obtain ⟨b, o, rfl⟩ := SlC.ptr C.row e
    refine ⟨c, 0, rfl, _, n, cap, C.cell, b, o, rfl, by omega, by omega, v.1, ?_, ?_⟩
    · rw [Int.toNat_natCast]; exact C.row.n hv
    · refine BIf.intro (fun e' => k1 (.inr ⟨v, by rw [hlen]; exact hv, by simpa using e'⟩)) (fun e' => ?_)
      have hnr : ¬ Refused l x := by
        rintro (g | ⟨u, hu, g⟩)
        · exact hx g
        · rw [hlen, hv] at hu; cases hu
          simp [g] at e'
      exact ⟨c, 0, rfl, put_rest C hn hnr (k2 hnr)⟩
  · have e : n = 0 := by have : ¬ (n : Int) > 0 := by simpa using e
                         omega
    have hnr : ¬ Refused l x := by
      rintro (g | ⟨u, hu, g⟩)
      · exact hx g
      · have : l = [] := by apply List.eq_nil_of_length_eq_zero; omega
        subst this; simp at hu
    exact ⟨c, 0, rfl, put_rest C hn hnr (k2 hnr)⟩

theorem call7 {h : Heap} {c : Nat} {Q : Value → Heap → Prop} (k : ∀ h', h' = h.push (.cells #[.pointer (some ⟨c, 0, none⟩)] 23) → Q (.func (.func 30) #[] #[.pointer (some ⟨h.size, 0, none⟩)]) h') : CallH Try.prog 7 #[.pointer (some ⟨c, 0, none⟩)] h Q := by
  refine call_of_fn (M := M7) (args := [_]) Try.func7 rfl rfl (Nat.le_of_ble_eq_true rfl) ?_
  rw [vc7]
  exact fun h' hh => k h' hh
theorem call28 {h : Heap} {Q : Value → Heap → Prop} (k : ∀ h', Kept [] h h' → ChainAt h' h.size none 0 0 [] → Q (.pointer (some ⟨h.size, 0, none⟩)) h') : CallH Try.prog 28 #[] h Q := by
  refine call_of_fn (M := M28) (args := []) Try.func28 rfl rfl (Nat.le_of_ble_eq_true rfl) ?_
  rw [vc28]
  intro h' hh
  exact k h' (hh ▸ Kept.push _) ⟨by rw [hh]; exact get_push_eq, SlC.nil _ _ _, Free.none, by simp [blk], List.Pairwise.nil, by simp, by omega⟩
end Go.Proofs.Ytabidhoaginokaa
