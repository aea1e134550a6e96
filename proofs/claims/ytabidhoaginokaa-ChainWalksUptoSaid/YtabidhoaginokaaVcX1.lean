/-
  THE CHAIN (search, clone, prune, put): what each function comes to, out of its formula.
-/
import Derived.Test.YtabidhoaginokaaVcU
import Derived.Test.YtabidhoaginokaaV0
namespace Go.Proofs.Ytabidhoaginokaa
open Go Go.Proofs Go.Proofs.Ytabidhoaginokaa.Vc
set_option linter.unusedVariables false
set_option linter.unusedSimpArgs false
set_option maxRecDepth 100000

theorem wrapI (x : Int) (h : -9223372036854775808 ≤ x) (h' : x ≤ 9223372036854775807) : IntKind.i64.wrap x = x := by
  simp only [IntKind.wrap, IntKind.bits, IntKind.signed]
  simp
  omega
theorem wrapU (x : Int) (h : 0 ≤ x) (h' : x ≤ 18446744073709551615) : IntKind.u64.wrap x = x := by
  simp only [IntKind.wrap, IntKind.bits, IntKind.signed]
  simp
  omega

/-! ### Versions, as cells -/
abbrev Ver := Int × ByteArray
def vcells : List Ver → List Value
  | [] => []
  | v :: r => .int .i64 v.1 :: .string v.2 :: vcells r
theorem vcells_len : ∀ l, (vcells l).length = l.length * 2
  | [] => rfl
  | v :: r => by simp [vcells, vcells_len r]; omega
theorem vcells_app : ∀ a b, vcells (a ++ b) = vcells a ++ vcells b
  | [], b => rfl
  | v :: r, b => by simp [vcells, vcells_app r b]
theorem vcells_n : ∀ (l : List Ver) (i : Nat) (v : Ver), l[i]? = some v → (vcells l)[i * 2]? = some (.int .i64 v.1)
  | [], i, v, h => by simp at h
  | u :: r, 0, v, h => by simp at h; subst h; rfl
  | u :: r, i + 1, v, h => by
    have := vcells_n r i v (by simpa using h)
    rw [show (i + 1) * 2 = i * 2 + 1 + 1 by omega]; exact this
theorem vcells_s : ∀ (l : List Ver) (i : Nat) (v : Ver), l[i]? = some v → (vcells l)[i * 2 + 1]? = some (.string v.2)
  | [], i, v, h => by simp at h
  | u :: r, 0, v, h => by simp at h; subst h; rfl
  | u :: r, i + 1, v, h => by
    have := vcells_s r i v (by simpa using h)
    rw [show (i + 1) * 2 + 1 = i * 2 + 1 + 1 + 1 by omega]; exact this
theorem vcells_cell : ∀ l, ∀ v ∈ vcells l, cellV v = true
  | [], v, h => by simp [vcells] at h
  | u :: r, v, h => by
    simp only [vcells, List.mem_cons] at h
    rcases h with rfl | rfl | h
    · rfl
    · rfl
    · exact vcells_cell r v h

/-- A slice of versions. -/
def VerS (h : Heap) (e : TypeId) (p : Option Addr) (n c : Nat) (l : List Ver) : Prop := SlC h e 2 p n c (vcells l)
theorem VerS.len {h : Heap} {e : TypeId} {p : Option Addr} {n c : Nat} {l : List Ver} (s : VerS h e p n c l) : l.length = n := by
  have := SlC.len s; rw [vcells_len] at this; omega
theorem VerS.n {h : Heap} {e : TypeId} {b o n c : Nat} {l : List Ver} (s : VerS h e (some ⟨b, o, none⟩) n c l) {i : Nat} {v : Ver} (hv : l[i]? = some v) : cellH h ⟨b, o + i * 2, none⟩ = some (.int .i64 v.1) := by
  have hi : i < n := by rw [← s.len]; exact (List.getElem?_eq_some_iff.1 hv).1
  rw [SlC.cell s (by omega), vcells_n l i v hv]
theorem VerS.s {h : Heap} {e : TypeId} {b o n c : Nat} {l : List Ver} (s : VerS h e (some ⟨b, o, none⟩) n c l) {i : Nat} {v : Ver} (hv : l[i]? = some v) : cellH h ⟨b, o + i * 2 + 1, none⟩ = some (.string v.2) := by
  have hi : i < n := by rw [← s.len]; exact (List.getElem?_eq_some_iff.1 hv).1
  rw [Nat.add_assoc, SlC.cell s (by omega), vcells_s l i v hv]

/-! ### The search -/
theorem call46 {h : Heap} {x m : Int} {s : ByteArray} {Q : Value → Heap → Prop} (k : ∀ h', Kept [] h h' → Q (.int .i64 (if x > m then 1 else -1)) h') :
    CallH Try.prog 46 #[.agg #[.int .i64 x, .string s], .int .i64 m] h Q := by
  refine call_of_fn (M := M46) (args := [_, _]) Try.func46 rfl rfl (Nat.le_of_ble_eq_true rfl) ?_
  rw [vc46]
  intro h' hh
  have kp : Kept [] h h' := hh ▸ Kept.push _
  refine ⟨x, by rw [hh, cell_of get_push_eq]; rfl, ?_⟩
  have kk := k h' kp
  refine BIf.intro (fun e => ?_) (fun e => ?_)
  · rw [if_pos (by simpa using e)] at kk; exact kk
  · rw [if_neg (by simpa using e)] at kk; exact kk

/-- The place of the first version above m. -/
structure Cut (l : List Ver) (m : Int) (i : Nat) : Prop where
  le : i ≤ l.length
  low : ∀ k, k < i → ∀ v, l[k]? = some v → v.1 ≤ m
  high : ∀ k, i ≤ k → ∀ v, l[k]? = some v → m < v.1
/-- By rising numbers. -/
def Rising (l : List Ver) : Prop := l.Pairwise fun a b => a.1 < b.1
theorem Rising.lt {l : List Ver} (r : Rising l) {i j : Nat} {a b : Ver} (hij : i < j) (ha : l[i]? = some a) (hb : l[j]? = some b) : a.1 < b.1 := by
  obtain ⟨h1, rfl⟩ := List.getElem?_eq_some_iff.1 ha
  obtain ⟨h2, rfl⟩ := List.getElem?_eq_some_iff.1 hb
  exact List.pairwise_iff_getElem.1 r i j h1 h2 hij

theorem loop45 {p : Option Addr} {n c : Nat} {l : List Ver} {m : Int} {ds : List Deferred} {K : Exit → Fr → List Deferred → Heap → Prop} (hr : Rising l) (hn : n ≤ 2 ^ 26) :
    ∀ (fuel i j : Nat) (h : Heap), VerS h 77 p n c l → i ≤ j → j ≤ n → j - i < fuel → (∀ k, k < i → ∀ v, l[k]? = some v → v.1 ≤ m) → (∀ k, j ≤ k → ∀ v, l[k]? = some v → m < v.1) →
      (∀ i' h', Kept [] h h' → Cut l m i' → K (.exit 0) (FrL 49 [(0, .slice p n c), (1, .int .i64 m), (2, .func (.func 46) #[] #[]), (8, .int .i64 n), (9, .int .i64 i'), (10, .int .i64 i')]) ds h') →
      LoopN (dn Try.prog M45 none (codeAt (bodyC Try.f45) [1, 1, 1, 0, 0, 0])) fuel (FrL 49 [(0, .slice p n c), (1, .int .i64 m), (2, .func (.func 46) #[] #[]), (8, .int .i64 n), (9, .int .i64 i), (10, .int .i64 j)]) ds h K
  | 0, i, j, h, hs, hij, hj, hf, hlo, hhi, k => by omega
  | fuel + 1, i, j, h, hs, hij, hj, hf, hlo, hhi, k => by
    rw [loopN_succ, vc45_111000]
    have hlen := hs.len
    refine BIf.intro (fun e => ?_) (fun e => ?_)
    · have e : (i : Int) < j := by simpa using e
      have hmid : IntKind.i64.wrap (Int.fdiv (IntKind.u64.wrap (IntKind.i64.wrap ((i : Int) + j))) (2 ^ 1)) = (((i + j) / 2 : Nat) : Int) := by
        rw [wrapI ((i : Int) + j) (by omega) (by omega), wrapU ((i : Int) + j) (by omega) (by omega)]
        have : Int.fdiv ((i : Int) + j) (2 ^ 1) = (((i + j) / 2 : Nat) : Int) := by
          rw [Int.fdiv_eq_ediv_of_nonneg _ (by decide)]; omega
        rw [this, wrapI _ (by omega) (by omega)]
      rw [hmid]
      have hlt : (i + j) / 2 < n := by omega
      obtain ⟨v, hv⟩ : ∃ v, l[(i + j) / 2]? = some v := ⟨_, List.getElem?_eq_getElem (by omega)⟩
      obtain ⟨b, o, rfl⟩ := SlC.ptr hs (by omega)
      refine ⟨by decide, b, o, rfl, by omega, by omega, v.1, ?_, v.2, ?_, ?_⟩
      · rw [Int.toNat_natCast]; exact hs.n hv
      · rw [Int.toNat_natCast]; exact hs.s hv
      · refine callV_fn (call46 fun h' kp => ⟨_, rfl, ?_⟩)
        have hs' : VerS h' 77 (some ⟨b, o, none⟩) n c l := SlC.kept hs kp (by simp)
        refine BIf.intro (fun e' => ?_) (fun e' => ?_)
        · have e' : ¬ v.1 > m := by intro g; simp [g] at e'
          have hw : IntKind.i64.wrap ((((i + j) / 2 : Nat) : Int) + 1) = (((i + j) / 2 + 1 : Nat) : Int) := by rw [wrapI _ (by omega) (by omega)]; omega
          rw [hw, kl_normal]
          refine loop45 hr hn fuel ((i + j) / 2 + 1) j h' hs' (by omega) hj (by omega) (fun k' hk' u hu => ?_) hhi (fun i' h'' kk cc => k i' h'' (kp.trans kk (by simp)) cc)
          rcases Nat.lt_or_ge k' ((i + j) / 2) with g | g
          · have := hr.lt g hu hv; omega
          · have : k' = (i + j) / 2 := by omega
            subst this; rw [hv] at hu; cases hu; omega
        · have e' : v.1 > m := by
            apply Classical.byContradiction; intro g; simp [g] at e'
          rw [kl_normal]
          refine loop45 hr hn fuel i ((i + j) / 2) h' hs' (by omega) (by omega) (by omega) hlo (fun k' hk' u hu => ?_) (fun i' h'' kk cc => k i' h'' (kp.trans kk (by simp)) cc)
          rcases Nat.lt_or_ge ((i + j) / 2) k' with g | g
          · have := hr.lt g hv hu; omega
          · have : k' = (i + j) / 2 := by omega
            subst this; rw [hv] at hu; cases hu; omega
    · have e : ¬ (i : Int) < j := by simpa using e
      have hij' : i = j := by omega
      subst hij'
      rw [kl_exit]; exact k i h (.refl _ _) ⟨by omega, hlo, hhi⟩

theorem call45 {h : Heap} {p : Option Addr} {n c : Nat} {l : List Ver} {m : Int} {Q : Value → Heap → Prop} (hs : VerS h 77 p n c l) (hr : Rising l) (hn : n ≤ 2 ^ 26)
    (k : ∀ i b h', Kept [] h h' → Cut l m i → Q (.tuple #[.int .i64 (i : Nat), .bool b]) h') : CallH Try.prog 45 #[.slice p n c, .int .i64 m, .func (.func 46) #[] #[]] h Q := by
  refine call_of_fn (M := M45) (args := [_, _, _]) Try.func45 rfl rfl (Nat.le_of_ble_eq_true rfl) ?_
  rw [vc45]
  refine loop_of (n + 1) (loop45 hr hn (n + 1) 0 n h hs (by omega) (Nat.le_refl _) (by omega) (fun k hk => by omega) (fun k' hk' v hv => ?_) fun i h' kp cc => ?_)
  · have := (List.getElem?_eq_some_iff.1 hv).1; rw [hs.len] at this; omega
  · rw [kx_exit, ks_normal, vc45_1111]
    have hs' : VerS h' 77 p n c l := SlC.kept hs kp (by simp)
    refine BIf.intro (fun e => ?_) (fun e => ?_)
    · have e : (i : Int) < n := by simpa using e
      obtain ⟨v, hv⟩ : ∃ v, l[i]? = some v := ⟨_, List.getElem?_eq_getElem (by rw [hs.len]; omega)⟩
      obtain ⟨b, o, rfl⟩ := SlC.ptr hs (by omega)
      refine ⟨b, o, rfl, by omega, by omega, v.1, ?_, v.2, ?_, ?_⟩
      · rw [Int.toNat_natCast]; exact hs'.n hv
      · rw [Int.toNat_natCast]; exact hs'.s hv
      · refine callV_fn (call46 fun h'' kp' => ⟨_, rfl, ?_⟩)
        rw [ret45]; exact k i _ h'' (kp.trans kp' (by simp)) cc
    · rw [ret45]; exact k i _ h' kp cc
end Go.Proofs.Ytabidhoaginokaa
