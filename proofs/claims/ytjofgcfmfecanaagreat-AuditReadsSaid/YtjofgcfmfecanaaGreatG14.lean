import Derived.Test.YtjofgcfmfecanaaGreatG13
import Derived.Test.YtjofgcfmfecanaaGreatG9
import Derived.Test.YtjofgcfmfecanaaGreatProg

set_option linter.unusedSimpArgs false
set_option linter.unusedVariables false

/- Walking: maps, makes. -/
namespace Go.Aff
set_option linter.unusedVariables false

variable {P : Program} {σ : AST} {ρ : Operand → AV} {K : AV → AST → Prop} {dst : Option Tmp} {ty : TypeId} {pos : String} {after : Array Edge} {gd : Option (Nat × Bool)}
theorem op_lookup {t : TypeId} {x k : Operand} {ok : Bool} : opW P ρ ⟨dst, .lookup t x k ok, ty, pos, after, gd⟩ σ K = lookupW P σ t (ρ x) (ρ k) ok (At K σ) := nr rfl
theorem op_mapUpdate {t : TypeId} {m k v : Operand} : opW P ρ ⟨dst, .mapUpdate t m k v, ty, pos, after, gd⟩ σ K = mapUpdateW P σ t (ρ m) (ρ k) (ρ v) (AtS K .undef) := nr rfl
theorem op_mapEntry {t : TypeId} {m k : Operand} : opW P ρ ⟨dst, .mapEntry t m k, ty, pos, after, gd⟩ σ K = mapEntryW P σ t (ρ m) (ρ k) K := nr rfl
theorem op_entryStore {t : TypeId} {m st v : Operand} : opW P ρ ⟨dst, .entryStore t m st v, ty, pos, after, gd⟩ σ K = entryStoreW σ (ρ m) (ρ st) (ρ v) (AtS K .undef) := nr rfl
theorem op_makeMap {t : TypeId} : opW P ρ ⟨dst, .makeMap t none, ty, pos, after, gd⟩ σ K = K (.mp (some σ.objs.length)) (σ.push (.map [] 0)) := nr rfl
theorem op_makeSlice {t : TypeId} {n c : Operand} : opW P ρ ⟨dst, .makeSlice t n c, ty, pos, after, gd⟩ σ K = makeSliceW P t (ρ n) (ρ c) σ K := nr rfl
theorem op_delete {s x : Operand} {ts : Array TypeId} : opW P ρ ⟨dst, .call ⟨.builtin .delete, #[s, x], ts⟩, ty, pos, after, gd⟩ σ K = deleteW P ts (ρ s) (ρ x) σ (AtS K (.tuple [])) := nr rfl
theorem op_clear {s : Operand} {ts : Array TypeId} : opW P ρ ⟨dst, .call ⟨.builtin .clear, #[s], ts⟩, ty, pos, after, gd⟩ σ K = clearW P ts (ρ s) σ (AtS K (.tuple [])) := nr rfl
theorem op_range {t : TypeId} {x : Operand} : opW P ρ ⟨dst, .range t x, ty, pos, after, gd⟩ σ K = rangeW P σ t (ρ x) K := nr rfl
theorem op_next {x : Operand} {s : Bool} : opW P ρ ⟨dst, .next x s, ty, pos, after, gd⟩ σ K = nextW σ (ρ x) s K := nr rfl
theorem op_entry {x : Operand} : opW P ρ ⟨dst, .entry x, ty, pos, after, gd⟩ σ K = entryW σ (ρ x) (At K σ) := nr rfl
attribute [go_sem ↓] op_range op_next op_entry op_lookup op_mapUpdate op_mapEntry op_entryStore op_makeMap op_makeSlice op_delete op_clear
end Go.Aff

/- Layer 9, plainly: how many, where, up to where; beginnings. -/
namespace Go.Aff.L09
set_option linter.unusedVariables false
set_option linter.unusedSimpArgs false

def isC (c : Int) (b : UInt8) : Bool := decide ((b.toNat : Int) = c)
def cnt (c : Int) (h : List UInt8) : Nat := h.countP (isC c)
/-- The place of a client's operation: from place i on, k of it before. -/
def placeL (c n : Int) : List UInt8 → Nat → Nat → Int
  | [], _, _ => -1
  | b :: r, i, k => if isC c b = true then (if ((k + 1 : Nat) : Int) = n then (i : Int) else placeL c n r (i + 1) (k + 1)) else placeL c n r (i + 1) k
def place (h : List UInt8) (c n : Int) : Int := placeL c n h 0 0
/-- Up to a client's last operation. -/
def uptoL (c : Int) (h : List UInt8) : Nat → List UInt8
  | 0 => []
  | i + 1 => match h[i]? with
    | some b => if isC c b = true then h.take (i + 1) else uptoL c h i
    | none => uptoL c h i
def upto (h : List UInt8) (c : Int) : List UInt8 := uptoL c h h.length
def right (h : List UInt8) (n : Int) : Bool := h.all (fun b => decide ((b.toNat : Int) < n)) && decide (h.length ≤ 512 ∧ 1 ≤ n ∧ n ≤ 256)
def fit (a b : List UInt8) : Bool := decide (b <+: a ∨ a <+: b)
def longer (a b : List UInt8) : List UInt8 := if a <+: b then b else a

theorem cnt_le {c : Int} {h : List UInt8} : cnt c h ≤ h.length := List.countP_le_length
theorem cnt_nil {c : Int} : cnt c [] = 0 := rfl
theorem cnt_append {c : Int} {a b : List UInt8} : cnt c (a ++ b) = cnt c a + cnt c b := List.countP_append
theorem cnt_take {c : Int} {h : List UInt8} {i : Nat} {b : UInt8} (hb : h[i]? = some b) : cnt c (h.take (i + 1)) = cnt c (h.take i) + if isC c b = true then 1 else 0 := by
  rw [List.take_add_one, hb, cnt_append]
  simp only [Option.toList_some, cnt, List.countP_cons, List.countP_nil, Nat.zero_add]
theorem cnt_take_le {c : Int} {h : List UInt8} {i : Nat} : cnt c (h.take i) ≤ i := by
  have := cnt_le (c := c) (h := h.take i); simp at this; omega
theorem isC_self {b : UInt8} : isC (b.toNat : Int) b = true := by simp [isC]
theorem isC_other {a b : UInt8} (h : a ≠ b) : isC (a.toNat : Int) b = false := by
  simp only [isC, decide_eq_false_iff_not]
  intro e
  apply h
  have : b.toNat = a.toNat := by omega
  exact (UInt8.toNat_inj.1 this).symm
theorem placeL_step {c n : Int} {h : List UInt8} {i : Nat} {b : UInt8} (hb : h[i]? = some b) :
    placeL c n (h.drop i) i (cnt c (h.take i)) = if isC c b = true ∧ ((cnt c (h.take (i + 1)) : Nat) : Int) = n then (i : Int) else placeL c n (h.drop (i + 1)) (i + 1) (cnt c (h.take (i + 1))) := by
  rw [cnt_take hb]
  have hlt := (List.getElem?_eq_some_iff.1 hb).1
  have hd : h.drop i = b :: h.drop (i + 1) := by
    rw [List.drop_eq_getElem_cons hlt]; congr 1; exact (List.getElem?_eq_some_iff.1 hb).2
  rw [hd]
  simp only [placeL]
  cases hc : isC c b with
  | true => simp
  | false => simp
theorem placeL_end {c n : Int} {h : List UInt8} {k : Nat} : placeL c n (h.drop h.length) h.length k = -1 := by simp [placeL]
theorem placeL_range {c n : Int} : ∀ {r : List UInt8} {i k : Nat}, placeL c n r i k = -1 ∨ ((i : Int) ≤ placeL c n r i k ∧ placeL c n r i k < i + r.length)
  | [], i, k => .inl rfl
  | b :: r, i, k => by
    simp only [placeL]
    have h1 := placeL_range (c := c) (n := n) (r := r) (i := i + 1) (k := k + 1)
    have h2 := placeL_range (c := c) (n := n) (r := r) (i := i + 1) (k := k)
    split
    · split
      · right; simp; omega
      · rcases h1 with h | h
        · exact .inl h
        · right; simp only [List.length_cons]; omega
    · rcases h2 with h | h
      · exact .inl h
      · right; simp only [List.length_cons]; omega
end Go.Aff.L09

/- Layer 9, walked: the operations in order. -/
namespace Go.Aff.L09
open Go.Proofs Go.Aff
set_option linter.unusedVariables false
set_option linter.unusedSimpArgs false
theorem mixed : Tryz.prog.follows .mixedOrders = true := rfl
theorem agg3 : aggT Tryz.prog 3 = some false := by kernel_rfl
theorem cells3 : Tryz.prog.cellsOf 3 = 1 := by kernel_rfl
theorem agg5 : aggT Tryz.prog 5 = some false := by kernel_rfl
theorem cells5 : Tryz.prog.cellsOf 5 = 1 := by kernel_rfl
theorem agg9 : aggT Tryz.prog 9 = some false := by kernel_rfl
theorem cells9 : Tryz.prog.cellsOf 9 = 1 := by kernel_rfl
theorem fits3 {v : AV} : fits Tryz.prog 3 v = (v.isAgg = false ∧ v.size = 1) := fits_leaf agg3 cells3
theorem fits9 {v : AV} : fits Tryz.prog 9 v = (v.isAgg = false ∧ v.size = 1) := fits_leaf agg9 cells9
attribute [local go_sem] Tryz.underlying3 Tryz.underlying4 Tryz.underlying5 Tryz.underlying9 fits3 fits9

end Go.Aff.L09

/- Layer 9, walked: how many operations a client has; where one stands. -/
namespace Go.Aff.L09
open Go.Proofs Go.Aff
set_option linter.unusedVariables false
set_option linter.unusedSimpArgs false
attribute [local go_sem] Tryz.underlying3 Tryz.underlying4 Tryz.underlying5 Tryz.underlying9 fits3 fits9 push_app app_app length_app cellAt_app cellAt_app0 set_app set_app0 objs_app objs_app0 List.cons_append List.nil_append List.length_cons List.length_nil List.getElem?_cons_zero List.getElem?_cons_succ List.set_cons_zero List.set_cons_succ

attribute [-go_sem] cellAt_new

set_option maxRecDepth 200000 in
theorem zero3 : zeroA Tryz.prog 12 3 = .int .i64 0 := by kernel_rfl
set_option maxRecDepth 200000 in
theorem zeroOf3 : ZeroOf Tryz.prog 3 (.int .i64 0) := ⟨_, _, rfl, rfl, rfl, rfl, rfl⟩

end Go.Aff.L09

/- Layer 9, plainly: places, beginnings, orders. -/
namespace Go.Aff.L09
set_option linter.unusedVariables false
set_option linter.unusedSimpArgs false

theorem cnt_mono {c : Int} {h : List UInt8} {i j : Nat} (hij : i ≤ j) : cnt c (h.take i) ≤ cnt c (h.take j) := by
  have : h.take i = (h.take j).take i := by rw [List.take_take, Nat.min_eq_left hij]
  rw [this]
  exact List.Sublist.countP_le (List.take_sublist _ _)
theorem placeL_spec {c : Int} {h : List UInt8} {i : Nat} {b : UInt8} (hb : h[i]? = some b) (hc : isC c b = true) : ∀ (d j : Nat), d + j = i → placeL c ((cnt c (h.take (i + 1)) : Nat) : Int) (h.drop j) j (cnt c (h.take j)) = i
  | 0, j, hj => by
    obtain rfl : j = i := by omega
    rw [placeL_step hb, if_pos ⟨hc, rfl⟩]
  | d + 1, j, hj => by
    have hlt := (List.getElem?_eq_some_iff.1 hb).1
    have hjb : h[j]? = some h[j] := List.getElem?_eq_getElem (by omega)
    rw [placeL_step hjb, if_neg, placeL_spec hb hc d (j + 1) (by omega)]
    rintro ⟨_, he⟩
    have h1 := cnt_take (c := c) hb
    rw [if_pos hc] at h1
    have h2 := cnt_mono (c := c) (h := h) (i := j + 1) (j := i) (by omega)
    omega
theorem place_spec {c : Int} {h : List UInt8} {i : Nat} {b : UInt8} (hb : h[i]? = some b) (hc : isC c b = true) : place h c ((cnt c (h.take (i + 1)) : Nat) : Int) = i := by
  have := placeL_spec hb hc i 0 (by omega)
  simpa [place, cnt] using this
theorem place_range {c n : Int} {h : List UInt8} : place h c n = -1 ∨ (0 ≤ place h c n ∧ place h c n < h.length) := by
  have := placeL_range (c := c) (n := n) (r := h) (i := 0) (k := 0)
  unfold place; omega
theorem uptoL_some {c : Int} {h : List UInt8} : ∀ n, n ≤ h.length → cnt c (h.take n) = cnt c h → cnt c h ≠ 0 → uptoL c h n = h.take ((place h c (cnt c h)).toNat + 1) ∧ 0 ≤ place h c (cnt c h)
  | 0, _, h1, h2 => absurd h1.symm h2
  | n + 1, hn, h1, h2 => by
    have hb : h[n]? = some h[n] := List.getElem?_eq_getElem (by omega)
    have hct := cnt_take (c := c) hb
    simp only [uptoL, hb]
    split
    · rename_i hc
      have := place_spec hb hc
      rw [h1] at this
      rw [this]; simp
    · rename_i hc
      rw [if_neg hc] at hct
      exact uptoL_some n (by omega) (by omega) h2
theorem uptoL_none {c : Int} {h : List UInt8} (h0 : cnt c h = 0) : ∀ n, uptoL c h n = []
  | 0 => rfl
  | n + 1 => by
    simp only [uptoL]
    split
    · rename_i b hb
      rw [if_neg]
      · exact uptoL_none h0 n
      · have hm : b ∈ h := List.mem_iff_getElem?.2 ⟨n, hb⟩
        unfold cnt at h0
        rw [List.countP_eq_zero] at h0
        exact h0 b hm
    · exact uptoL_none h0 n
theorem upto_none {c : Int} {h : List UInt8} (h0 : cnt c h = 0) : upto h c = [] := uptoL_none h0 _
theorem upto_some {c : Int} {h : List UInt8} (h0 : cnt c h ≠ 0) : upto h c = h.take ((place h c (cnt c h)).toNat + 1) ∧ 0 ≤ place h c (cnt c h) := uptoL_some _ (Nat.le_refl _) (by rw [List.take_length]) h0

/-! ### Growing -/
theorem placeL_append {c n : Int} : ∀ {h more : List UInt8} {i k : Nat}, placeL c n h i k ≠ -1 → placeL c n (h ++ more) i k = placeL c n h i k
  | [], more, i, k, hh => absurd rfl hh
  | b :: r, more, i, k, hh => by
    simp only [List.cons_append, placeL] at hh ⊢
    split
    · rename_i hc
      rw [if_pos hc] at hh
      split
      · rfl
      · rename_i hn
        rw [if_neg hn] at hh
        exact placeL_append hh
    · rename_i hc
      rw [if_neg hc] at hh
      exact placeL_append hh
theorem placeL_found {c : Int} : ∀ {h : List UInt8} {i k n : Nat}, k < n → n ≤ k + cnt c h → placeL c (n : Nat) h i k ≠ -1
  | [], i, k, n, h1, h2 => by simp [cnt] at h2; omega
  | b :: r, i, k, n, h1, h2 => by
    have hcc : cnt c (b :: r) = cnt c r + if isC c b = true then 1 else 0 := by simp [cnt, List.countP_cons]
    simp only [placeL]
    split
    · rename_i hc
      rw [if_pos hc] at hcc
      split
      · omega
      · rename_i hn
        exact placeL_found (by omega) (by omega)
    · rename_i hc
      rw [if_neg hc] at hcc
      exact placeL_found h1 (by omega)
theorem place_append {c : Int} {h more : List UInt8} {n : Nat} (h1 : 1 ≤ n) (h2 : n ≤ cnt c h) : place (h ++ more) c n = place h c n :=
  placeL_append (placeL_found (by omega) (by omega))
theorem upto_prefix {c : Int} {h : List UInt8} : upto h c <+: h := by
  by_cases h0 : cnt c h = 0
  · rw [upto_none h0]; exact List.nil_prefix
  · rw [(upto_some h0).1]; exact List.take_prefix _ _
theorem cnt_upto {c : Int} {h : List UInt8} : cnt c (upto h c) = cnt c h := by
  have key : ∀ n, n ≤ h.length → cnt c (h.take n) = cnt c h → cnt c (uptoL c h n) = cnt c h := by
    intro n
    induction n with
    | zero => intro _ h1; simpa [uptoL] using h1
    | succ n ih =>
      intro hn h1
      have hb : h[n]? = some h[n] := List.getElem?_eq_getElem (by omega)
      have hct := cnt_take (c := c) hb
      simp only [uptoL, hb]
      split
      · exact h1
      · rename_i hc
        rw [if_neg hc] at hct
        exact ih (by omega) (by omega)
  exact key _ (Nat.le_refl _) (by rw [List.take_length])
theorem upto_append {c : Int} {h more : List UInt8} (h0 : cnt c more = 0) : upto (h ++ more) c = upto h c := by
  have hcc : cnt c (h ++ more) = cnt c h := by rw [cnt_append, h0]; rfl
  by_cases hz : cnt c h = 0
  · rw [upto_none hz, upto_none (by omega)]
  · obtain ⟨h1, h2⟩ := upto_some hz
    obtain ⟨h3, h4⟩ := upto_some (c := c) (h := h ++ more) (by omega)
    rw [h1, h3, hcc, place_append (by omega) (Nat.le_refl _)]
    have := place_range (c := c) (n := cnt c h) (h := h)
    rw [List.take_append_of_le_length (by omega)]

/-! ### Going on, fitting -/
def goes (long short : List UInt8) : Bool := decide (short <+: long)
theorem goes_refl {a : List UInt8} : goes a a = true := by simp [goes]
theorem goes_antisymm {a b : List UInt8} (h1 : goes a b = true) (h2 : goes b a = true) : a = b := by
  simp only [goes, decide_eq_true_eq] at h1 h2
  exact h2.eq_of_length_le h1.length_le
theorem goes_trans {a b c : List UInt8} (h1 : goes a b = true) (h2 : goes b c = true) : goes a c = true := by
  simp only [goes, decide_eq_true_eq] at *
  exact h2.trans h1
theorem fit_eq {a b : List UInt8} : fit a b = (goes a b || goes b a) := by simp [fit, goes]
theorem fit_symm {a b : List UInt8} : fit a b = fit b a := by simp [fit, or_comm]
theorem goes_fit {a b c : List UInt8} (h1 : goes a b = true) (h2 : goes a c = true) : fit b c = true := by
  simp only [goes, fit, decide_eq_true_eq] at *
  rcases Nat.le_total b.length c.length with h | h
  · exact .inr (List.prefix_of_prefix_length_le h1 h2 h)
  · exact .inl (List.prefix_of_prefix_length_le h2 h1 h)
theorem longer_eq {a b : List UInt8} : longer a b = if goes b a = true then b else a := by simp [longer, goes]
theorem longer_hist {a b : List UInt8} : (if a.length < b.length ∧ goes b a = true then b else a) = longer a b := by
  rw [longer_eq]
  by_cases h : goes b a = true
  · by_cases hl : a.length < b.length
    · rw [if_pos ⟨hl, h⟩, if_pos h]
    · rw [if_neg (fun h => hl h.1), if_pos h]
      simp only [goes, decide_eq_true_eq] at h
      exact h.eq_of_length_le (by omega)
  · rw [if_neg (fun x => h x.2), if_neg h]
theorem longer_goes {a b : List UInt8} (h : fit a b = true) : goes (longer a b) a = true ∧ goes (longer a b) b = true := by
  rw [longer_eq]
  rw [fit_eq, Bool.or_eq_true] at h
  split
  · rename_i hb; exact ⟨hb, goes_refl⟩
  · rename_i hb
    rcases h with h | h
    · exact ⟨goes_refl, h⟩
    · exact absurd h hb
theorem longer_or {a b : List UInt8} : longer a b = a ∨ longer a b = b := by rw [longer_eq]; split <;> simp
theorem goes_step {a b : List UInt8} {i : Nat} (hi : ∀ k, k < i → a[k]? = b[k]?) (hl : b.length ≤ a.length) (h : i = b.length) : goes a b = true := by
  simp only [goes, decide_eq_true_eq, List.prefix_iff_eq_take]
  apply List.ext_getElem?
  intro k
  rw [List.getElem?_take]
  split
  · exact (hi k (by omega)).symm
  · exact List.getElem?_eq_none (by omega)
theorem goes_not {a b : List UInt8} {i : Nat} {x y : UInt8} (hx : a[i]? = some x) (hy : b[i]? = some y) (h : x ≠ y) : goes a b = false := by
  simp only [goes, decide_eq_false_iff_not]
  rintro ⟨r, rfl⟩
  rw [List.getElem?_append_left (List.getElem?_eq_some_iff.1 hy).1, hy] at hx
  cases hx; exact h rfl

/-! ### Forks -/
def allBefore (l : List (List UInt8)) (k i : Nat) : Prop := ∀ k' i', i' < k' → (k' < k ∨ k' = k ∧ i' < i) → ∀ x y, l[i']? = some x → l[k']? = some y → fit x y = true
def ForkP (l : List (List UInt8)) (a b : Int) : Prop :=
  (∃ (i k : Nat) (x y : List UInt8), i < k ∧ l[i]? = some x ∧ l[k]? = some y ∧ fit x y = false ∧ allBefore l k i ∧ a = i ∧ b = k) ∨ (allBefore l l.length 0 ∧ a = -1 ∧ b = -1)
theorem allBefore_zero {l : List (List UInt8)} : allBefore l 0 0 := fun k' i' h h' => by omega
theorem allBefore_step {l : List (List UInt8)} {k i : Nat} {x y : List UInt8} (h : allBefore l k i) (hx : l[i]? = some x) (hy : l[k]? = some y) (hf : fit x y = true) : allBefore l k (i + 1) := by
  intro k' i' h1 h2 u v hu hv
  by_cases e : k' = k ∧ i' = i
  · obtain ⟨rfl, rfl⟩ := e
    rw [hx] at hu; rw [hy] at hv; cases hu; cases hv; exact hf
  · exact h k' i' h1 (by omega) u v hu hv
theorem allBefore_row {l : List (List UInt8)} {k : Nat} (h : allBefore l k k) : allBefore l (k + 1) 0 := fun k' i' h1 h2 => h k' i' h1 (by omega)
/-- The first pair that does not fit is one. -/
theorem fork_found {l : List (List UInt8)} {a b : Int} {k i : Nat} {x y : List UInt8} (hF : ForkP l a b) (h : allBefore l k i) (hik : i < k) (hx : l[i]? = some x) (hy : l[k]? = some y) (hf : fit x y = false) : a = i ∧ b = k := by
  rcases hF with ⟨i2, k2, x2, y2, h1, hx2, hy2, hf2, hb, rfl, rfl⟩ | ⟨hb, _, _⟩
  · by_cases e : k2 = k ∧ i2 = i
    · obtain ⟨rfl, rfl⟩ := e; exact ⟨rfl, rfl⟩
    · by_cases hlt : k2 < k ∨ k2 = k ∧ i2 < i
      · have := h k2 i2 h1 hlt x2 y2 hx2 hy2; rw [hf2] at this; cases this
      · have := hb k i hik (by omega) x y hx hy; rw [hf] at this; cases this
  · have hlt := (List.getElem?_eq_some_iff.1 hy).1
    have := hb k i hik (.inl hlt) x y hx hy; rw [hf] at this; cases this
theorem fork_none {l : List (List UInt8)} {a b : Int} (hF : ForkP l a b) (h : allBefore l l.length 0) : a = -1 ∧ b = -1 := by
  rcases hF with ⟨i2, k2, x2, y2, h1, hx2, hy2, hf2, hb, rfl, rfl⟩ | ⟨_, h1, h2⟩
  · have hlt := (List.getElem?_eq_some_iff.1 hy2).1
    have := h k2 i2 h1 (.inl hlt) x2 y2 hx2 hy2; rw [hf2] at this; cases this
  · exact ⟨h1, h2⟩
end Go.Aff.L09

/- Layer 9, walked: which histories may be; counts, places, ends. -/
namespace Go.Aff.L09
open Go.Proofs Go.Aff
set_option linter.unusedVariables false
set_option linter.unusedSimpArgs false
attribute [local go_sem] Tryz.underlying3 Tryz.underlying4 Tryz.underlying5 Tryz.underlying9 Tryz.underlying24 fits3 fits9

theorem all_take {h : List UInt8} {i : Nat} {b : UInt8} {p : UInt8 → Bool} (hb : h[i]? = some b) : (h.take (i + 1)).all p = ((h.take i).all p && p b) := by
  rw [List.take_add_one, hb]; simp

theorem right_c {h : List UInt8} {n : Int} (h0 : -9223372036854775808 ≤ n) (h1 : n ≤ 9223372036854775807) {σ : AST} {K : AV → AST → Prop} (hK : K (.bool (right h n)) σ) : TCalls Tryz.prog 95 [.str h, .int .i64 n] σ K := by
  refine tcalls_walk Tryz.f95 _ [.tmp 4] Tryz.func95 rfl rfl rfl mixed (Nat.le_of_ble_eq_true rfl) rfl fun hlen => ?_
  have hs : h.length ≤ 9223372036854775807 := hlen (.str h) (by simp)
  simp -dsimp only [↓reduceIte, go_sem]
  refine arr_intro fun _ => ?_
  simp -dsimp only [↓reduceIte, go_sem]
  refine awp_rounds (fun (i : Nat) τ s => i ≤ h.length ∧ s = σ ∧ τ 0 = .str h ∧ τ 1 = .int .i64 n ∧ τ 7 = .int .i64 h.length ∧ τ 8 = .int .i64 i ∧ (h.take i).all (fun b => decide ((b.toNat : Int) < n)) = true) (fun i => h.length - i) 0 ?_ ?_
  · refine ⟨by omega, rfl, ?_, ?_, ?_, ?_, by simp⟩ <;> simp only [go_sem] <;> rfl
  · rintro i τ s ⟨hi, rfl, t0, t1, t7, t8, hall⟩
    simp -dsimp only [↓reduceIte, go_sem, t0, t1, t7, t8]
    refine boolW_split (fun hb => ?_) (fun hb => ?_)
    · have hb : i < h.length := by simp at hb; omega
      obtain ⟨b, hbb⟩ := get_lt hb
      have hbt := b.toNat_lt
      simp -dsimp only [↓reduceIte, go_sem, t0, t1, t7, t8]
      refine nth_get hbb ?_
      simp -dsimp only [↓reduceIte, go_sem, t0, t1, t7, t8]
      rw [wrap_i64 (n := (b.toNat : Int)) (by omega) (by omega)]
      refine boolW_split (fun hc => ?_) (fun hc => ?_)
      · have hc : n ≤ b.toNat := by simpa using hc
        have : right h n = false := by
          unfold right
          rw [Bool.and_eq_false_iff]; left
          rw [List.all_eq_false]
          exact ⟨b, List.mem_iff_getElem?.2 ⟨i, hbb⟩, by simp; omega⟩
        rw [this] at hK
        simp -dsimp only [↓reduceIte, go_sem, t0, t1, t7, t8]
        exact hK
      · have hc : ¬ n ≤ b.toNat := by simpa using hc
        simp -dsimp only [↓reduceIte, go_sem, t0, t1, t7, t8]
        rw [wrap_i64 (by omega) (by omega)]
        refine later_intro ⟨i + 1, by omega, by omega, rfl, ?_, ?_, ?_, ?_, ?_⟩ <;> (try simp only [go_sem, t0, t1, t7, t8]) <;> try rfl
        rw [all_take hbb, hall]; simp; omega
    · have hb : i = h.length := by simp at hb; omega
      subst hb
      rw [List.take_length] at hall
      have hr : right h n = decide (h.length ≤ 512 ∧ 1 ≤ n ∧ n ≤ 256) := by unfold right; rw [hall]; simp
      rw [hr] at hK
      simp -dsimp only [↓reduceIte, go_sem, t0, t1, t7, t8]
      refine arr_intro fun _ => ?_
      simp -dsimp only [↓reduceIte, go_sem, t0, t1, t7, t8]
      refine guardV_split (fun h3 => ?_) (fun h3 => ?_) <;> (try rw [h3])
      · have h3 : h.length ≤ 512 := by simp at h3; omega
        simp -dsimp only [↓reduceIte, go_sem, t0, t1, t7, t8]
        refine guardV_split (fun h4 => ?_) (fun h4 => ?_) <;> (try rw [h4])
        · have h4 : 1 ≤ n := by simpa using h4
          simp -dsimp only [↓reduceIte, go_sem, t0, t1, t7, t8]
          rw [show decide (n ≤ 256) = decide (h.length ≤ 512 ∧ 1 ≤ n ∧ n ≤ 256) by simp [h3, h4]]
          exact hK
        · have h4 : ¬ 1 ≤ n := by simpa using h4
          simp -dsimp only [↓reduceIte, go_sem, t0, t1, t7, t8]
          rw [show decide (h.length ≤ 512 ∧ 1 ≤ n ∧ n ≤ 256) = false by simp; omega] at hK
          exact hK
      · have h3 : ¬ h.length ≤ 512 := by simp at h3; omega
        simp -dsimp only [↓reduceIte, go_sem, t0, t1, t7, t8]
        rw [show decide (h.length ≤ 512 ∧ 1 ≤ n ∧ n ≤ 256) = false by simp; omega] at hK
        exact hK

theorem Right_c {h : List UInt8} {n : Int} (h0 : -9223372036854775808 ≤ n) (h1 : n ≤ 9223372036854775807) {σ : AST} {K : AV → AST → Prop} (hK : K (.bool (right h n)) σ) : TCalls Tryz.prog 56 [.str h, .int .i64 n] σ K := by
  refine tcalls_walk Tryz.f56 _ [.tmp 4] Tryz.func56 rfl rfl rfl mixed (Nat.le_of_ble_eq_true rfl) rfl fun hlen => ?_
  have hs : h.length ≤ 9223372036854775807 := hlen (.str h) (by simp)
  have no : ¬ (h.length ≤ 512 ∧ 1 ≤ n ∧ n ≤ 256) → K (.bool false) σ := fun hno => by
    rw [show right h n = false by unfold right; rw [decide_eq_false hno, Bool.and_false]] at hK; exact hK
  simp -dsimp only [↓reduceIte, go_sem]
  refine guardV_split (fun h2 => ?_) (fun h2 => ?_) <;> (try rw [h2])
  · have h2 : 1 ≤ n := by simp at h2; omega
    simp -dsimp only [↓reduceIte, go_sem]
    refine guardV_split (fun h3 => ?_) (fun h3 => ?_) <;> (try rw [h3])
    · have h3 : n ≤ 256 := by simp at h3; omega
      simp -dsimp only [↓reduceIte, go_sem]
      refine arr_intro fun _ => ?_
      simp -dsimp only [↓reduceIte, go_sem]
      refine boolW_split (fun h4 => ?_) (fun h4 => ?_)
      · have h4 : 512 < h.length := by simp at h4; omega
        simp -dsimp only [↓reduceIte, go_sem]
        exact no (by omega)
      · have h4 : h.length ≤ 512 := by simp at h4; omega
        simp -dsimp only [↓reduceIte, go_sem]
        refine awp_rounds (fun (i : Nat) τ s => i ≤ h.length ∧ s = σ ∧ τ 0 = .str h ∧ τ 1 = .int .i64 n ∧ τ 5 = .int .i64 i ∧ (h.take i).all (fun b => decide ((b.toNat : Int) < n)) = true) (fun i => h.length - i) 0 ?_ ?_
        · refine ⟨by omega, rfl, ?_, ?_, ?_, by simp⟩ <;> simp only [go_sem] <;> rfl
        · rintro i τ s ⟨hi, rfl, t0, t1, t5, hall⟩
          simp -dsimp only [↓reduceIte, go_sem, t0, t1, t5]
          refine arr_intro fun _ => ?_
          simp -dsimp only [↓reduceIte, go_sem, t0, t1, t5]
          refine boolW_split (fun hb => ?_) (fun hb => ?_)
          · have hb : i < h.length := by simp at hb; omega
            obtain ⟨b, hbb⟩ := get_lt hb
            have hbt := b.toNat_lt
            simp -dsimp only [↓reduceIte, go_sem, t0, t1, t5]
            refine nth_get hbb ?_
            simp -dsimp only [↓reduceIte, go_sem, t0, t1, t5]
            rw [wrap_i64 (n := (b.toNat : Int)) (by omega) (by omega), wrap_i64 (n := n - 1) (by omega) (by omega)]
            refine boolW_split (fun hc => ?_) (fun hc => ?_)
            · have hc : n ≤ b.toNat := by simp at hc; omega
              have : right h n = false := by
                unfold right
                rw [Bool.and_eq_false_iff]; left
                rw [List.all_eq_false]
                exact ⟨b, List.mem_iff_getElem?.2 ⟨i, hbb⟩, by simp; omega⟩
              rw [this] at hK
              simp -dsimp only [↓reduceIte, go_sem, t0, t1, t5]
              exact hK
            · have hc : ¬ n ≤ b.toNat := by simp at hc; omega
              simp -dsimp only [↓reduceIte, go_sem, t0, t1, t5]
              rw [wrap_i64 (by omega) (by omega)]
              refine later_intro ⟨i + 1, by omega, by omega, rfl, ?_, ?_, ?_, ?_⟩ <;> (try simp only [go_sem, t0, t1, t5]) <;> try rfl
              rw [all_take hbb, hall]; simp; omega
          · have hb : i = h.length := by simp at hb; omega
            subst hb
            rw [List.take_length] at hall
            have hr : right h n = true := by unfold right; rw [hall]; simp; omega
            rw [hr] at hK
            simp -dsimp only [↓reduceIte, go_sem, t0, t1, t5]
            exact hK
    · have h3 : ¬ n ≤ 256 := by simp at h3; omega
      simp -dsimp only [↓reduceIte, go_sem]
      exact no (by omega)
  · have h2 : ¬ 1 ≤ n := by simp at h2; omega
    simp -dsimp only [↓reduceIte, go_sem]
    exact no (by omega)


theorem hp2_c {a b : List UInt8} {σ : AST} {K : AV → AST → Prop} (hK : K (.bool (goes a b)) σ) : TCalls Tryz.prog 103 [.str a, .str b] σ K := by
  refine tcalls_walk Tryz.f103 _ [.tmp 4] Tryz.func103 rfl rfl rfl mixed (Nat.le_of_ble_eq_true rfl) rfl fun hlen => ?_
  simp -dsimp only [↓reduceIte, go_sem]
  refine arr_intro fun _ => ?_
  simp -dsimp only [↓reduceIte, go_sem]
  refine arr_intro fun _ => ?_
  simp -dsimp only [↓reduceIte, go_sem]
  refine guardV_split (fun h1 => ?_) (fun h1 => ?_) <;> (try rw [h1])
  · have h1 : b.length ≤ a.length := by simp at h1; omega
    simp -dsimp only [↓reduceIte, go_sem]
    refine arr_intro fun _ => ?_
    simp -dsimp only [↓reduceIte, go_sem]
    refine side_later (by omega) ?_
    simp -dsimp only [↓reduceIte, go_sem]
    refine side_later (by omega) ?_
    simp -dsimp only [↓reduceIte, go_sem]
    rw [show (a.take b.length == b) = goes a b by rw [Bool.eq_iff_iff]; simp [goes]; rw [List.prefix_iff_eq_take]; exact eq_comm]
    exact hK
  · have h1 : ¬ b.length ≤ a.length := by simp at h1; omega
    simp -dsimp only [↓reduceIte, go_sem]
    rw [show goes a b = false by simp [goes]; intro h; exact h1 h.length_le] at hK
    exact hK
theorem hp_c {a b : List UInt8} {σ : AST} {K : AV → AST → Prop} (hK : K (.bool (goes a b)) σ) : TCalls Tryz.prog 92 [.str a, .str b] σ K := by
  refine tcalls_walk Tryz.f92 _ [.tmp 4] Tryz.func92 rfl rfl rfl mixed (Nat.le_of_ble_eq_true rfl) rfl fun hlen => ?_
  simp -dsimp only [↓reduceIte, go_sem]
  refine hp2_c ?_
  simp -dsimp only [↓reduceIte, go_sem]
  exact hK
theorem goes_c {a b : List UInt8} {σ : AST} {K : AV → AST → Prop} (hK : K (.bool (goes a b)) σ) : TCalls Tryz.prog 70 [.str a, .str b] σ K := by
  refine tcalls_walk Tryz.f70 _ [.tmp 4] Tryz.func70 rfl rfl rfl mixed (Nat.le_of_ble_eq_true rfl) rfl fun hlen => ?_
  simp -dsimp only [↓reduceIte, go_sem]
  refine hp_c ?_
  simp -dsimp only [↓reduceIte, go_sem]
  exact hK

theorem fit_c {a b : List UInt8} {σ : AST} {K : AV → AST → Prop} (hK : K (.bool (fit a b)) σ) : TCalls Tryz.prog 46 [.str a, .str b] σ K := by
  rw [fit_eq] at hK
  refine tcalls_walk Tryz.f46 _ [.tmp 4] Tryz.func46 rfl rfl rfl mixed (Nat.le_of_ble_eq_true rfl) rfl fun hlen => ?_
  simp -dsimp only [↓reduceIte, go_sem]
  refine goes_c ?_
  simp -dsimp only [↓reduceIte, go_sem]
  cases hg : goes a b with
  | true =>
    rw [hg] at hK
    simp -dsimp only [↓reduceIte, go_sem]
    exact hK
  | false =>
    rw [hg] at hK
    simp -dsimp only [↓reduceIte, go_sem]
    refine goes_c ?_
    simp -dsimp only [↓reduceIte, go_sem]
    exact hK

set_option maxRecDepth 200000 in
theorem E33 : ElemT Tryz.prog 24 9 1 16 := ⟨rfl, by kernel_rfl, by kernel_rfl, ⟨.str [], ⟨_, _, rfl, rfl, rfl, rfl, rfl⟩⟩, by decide⟩

theorem sizes_str {l : List (List UInt8)} : ∀ v ∈ l.map AV.str, v.size = 1 := by
  intro v hv; obtain ⟨s, _, rfl⟩ := List.mem_map.1 hv; simp [AV.size]

theorem fork_c {l : List (List UInt8)} {tk0 : Tk} {σ : AST} {K : AV → AST → Prop} (hK : ∀ a b, ForkP l a b → K (.tuple [.int .i64 a, .int .i64 b]) σ) : TCalls Tryz.prog 20 [.slice tk0 (l.map AV.str)] σ K := by
  refine tcalls_walk Tryz.f20 _ [.tmp 2, .tmp 3] Tryz.func20 rfl rfl rfl mixed (Nat.le_of_ble_eq_true rfl) rfl fun hlen => ?_
  have hs : l.length ≤ 9223372036854775807 := by
    have := hlen (.slice tk0 (l.map AV.str)) (by simp)
    simp only [lenOk, List.length_map, maxL] at this; exact this
  simp -dsimp only [↓reduceIte, go_sem]
  refine arr_intro fun _ => ?_
  simp only [List.length_map]
  simp -dsimp only [↓reduceIte, go_sem]
  refine awp_rounds (fun (k : Nat) τ s => k ≤ l.length ∧ s = σ ∧ τ 0 = .slice tk0 (l.map AV.str) ∧ τ 8 = .slice tk0 (l.map AV.str) ∧ τ 9 = .int .i64 l.length ∧ τ 10 = .int .i64 k ∧ allBefore l k 0) (fun k => l.length - k) 0 ?_ ?_
  · refine ⟨by omega, rfl, ?_, ?_, ?_, ?_, allBefore_zero⟩ <;> simp only [go_sem] <;> rfl
  · rintro k τ s ⟨hk, rfl, t0, t8, t9, t10, hall⟩
    simp -dsimp only [↓reduceIte, go_sem, t0, t8, t9, t10]
    refine boolW_split (fun hb => ?_) (fun hb => ?_)
    · have hb : k < l.length := by simp at hb; omega
      obtain ⟨y, hy⟩ := get_lt hb
      simp -dsimp only [↓reduceIte, go_sem, t0, t8, t9, t10]
      refine nth_get hy ?_
      simp -dsimp only [↓reduceIte, go_sem, t0, t8, t9, t10]
      refine slice_hi E33 ⟨_, Tryz.underlying9⟩ sizes_str (by simp; omega) fun tk' => ?_
      simp -dsimp only [↓reduceIte, go_sem, t0, t8, t9, t10]
      refine arr_intro fun _ => ?_
      rw [List.length_take, List.length_map, Nat.min_eq_left (by omega)]
      simp -dsimp only [↓reduceIte, go_sem, t0, t8, t9, t10]
      refine awp_rounds (fun (i : Nat) τ s' => i ≤ k ∧ s' = s ∧ τ 0 = .slice tk0 (l.map AV.str) ∧ τ 8 = .slice tk0 (l.map AV.str) ∧ τ 9 = .int .i64 l.length ∧ τ 10 = .int .i64 k ∧ τ 4 = .int .i64 k ∧ τ 5 = .str y ∧
        τ 17 = .slice tk' ((l.take k).map AV.str) ∧ τ 18 = .int .i64 k ∧ τ 19 = .int .i64 i ∧ allBefore l k i) (fun i => k - i) 0 ?_ ?_
      · refine ⟨by omega, rfl, ?_, ?_, ?_, ?_, ?_, ?_, ?_, ?_, ?_, hall⟩ <;> simp only [go_sem, t0, t8, t9, t10, List.map_take] <;> rfl
      · rintro i τ s' ⟨hi, rfl, t0, t8, t9, t10, t4, t5, t17, t18, t19, hall⟩
        simp -dsimp only [↓reduceIte, go_sem, t0, t8, t9, t10, t4, t5, t17, t18, t19]
        refine boolW_split (fun hc => ?_) (fun hc => ?_)
        · have hc : i < k := by simp at hc; omega
          obtain ⟨x, hx⟩ := get_lt (l := l) (i := i) (by omega)
          have hx2 : (l.take k)[i]? = some x := by rw [List.getElem?_take, if_pos hc]; exact hx
          simp -dsimp only [↓reduceIte, go_sem, t0, t8, t9, t10, t4, t5, t17, t18, t19]
          refine nth_get hx2 ?_
          simp -dsimp only [↓reduceIte, go_sem, t0, t8, t9, t10, t4, t5, t17, t18, t19]
          refine fit_c ?_
          cases hf : fit x y with
          | true =>
            simp -dsimp only [↓reduceIte, go_sem, t0, t8, t9, t10, t4, t5, t17, t18, t19]
            rw [wrap_i64 (by omega) (by omega)]
            refine later_intro ⟨i + 1, by omega, by omega, rfl, ?_, ?_, ?_, ?_, ?_, ?_, ?_, ?_, ?_, allBefore_step hall hx hy hf⟩ <;> simp only [go_sem, t0, t8, t9, t10, t4, t5, t17, t18, t19] <;> rfl
          | false =>
            simp -dsimp only [↓reduceIte, go_sem, t0, t8, t9, t10, t4, t5, t17, t18, t19]
            exact hK _ _ (.inl ⟨i, k, x, y, hc, hx, hy, hf, hall, rfl, rfl⟩)
        · have hc : i = k := by simp at hc; omega
          subst hc
          simp -dsimp only [↓reduceIte, go_sem, t0, t8, t9, t10, t4, t5, t17, t18, t19]
          rw [wrap_i64 (by omega) (by omega)]
          refine later_intro ⟨i + 1, by omega, by omega, rfl, ?_, ?_, ?_, ?_, allBefore_row hall⟩ <;> simp only [go_sem, t0, t8, t9, t10, t4, t5, t17, t18, t19] <;> rfl
    · have hb : k = l.length := by simp at hb; omega
      subst hb
      simp -dsimp only [↓reduceIte, go_sem, t0, t8, t9, t10]
      exact hK _ _ (.inr ⟨hall, rfl, rfl⟩)

theorem fork_awake {a b : Int} (h : ForkP [[97], [97, 98], [98]] a b) : a = 0 ∧ b = 2 := by
  refine fork_found (k := 2) (i := 0) (x := [97]) (y := [98]) h ?_ (by decide) rfl rfl (by decide)
  intro k' i' h1 h2 x y hx hy
  obtain ⟨rfl, rfl⟩ : k' = 1 ∧ i' = 0 := by omega
  simp at hx hy
  subst hx; subst hy; decide

end Go.Aff.L09

/- Layer 32: structs. -/
namespace Go.Aff.L10
open Go.Proofs Go.Aff Go.Aff.L01 Classical
set_option linter.unusedVariables false
set_option linter.unusedSimpArgs false
set_option maxRecDepth 20000
structure Post where
  frm : Int
  to : Int
  b : List UInt8
def post0 : Post := ⟨0, 0, []⟩
def postPs (x : Post) : List AV := [.int .i64 x.frm, .int .i64 x.to, .str x.b]
abbrev postV (x : Post) : AV := .agg (postPs x)
theorem postPs_0 {x : Post} : (postPs x)[0]? = some (.int .i64 x.frm) := nr rfl
theorem postAt_0 {x : Post} {v : AV} : partIs Tryz.prog 38 (postPs x) 0 v = fits Tryz.prog 3 v := by rw [partIs_of (o := 0) (T := 3) (by kernel_rfl)]; simp [postPs, AV.sizes, AV.size]
theorem postSet_0 {x : Post} {y : Int} : (postPs x).set 0 (.int .i64 y) = postPs { x with frm := y } := nr rfl
theorem postPs_1 {x : Post} : (postPs x)[1]? = some (.int .i64 x.to) := nr rfl
theorem postAt_1 {x : Post} {v : AV} : partIs Tryz.prog 38 (postPs x) 1 v = fits Tryz.prog 3 v := by rw [partIs_of (o := 1) (T := 3) (by kernel_rfl)]; simp [postPs, AV.sizes, AV.size]
theorem postSet_1 {x : Post} {y : Int} : (postPs x).set 1 (.int .i64 y) = postPs { x with to := y } := nr rfl
theorem postPs_2 {x : Post} : (postPs x)[2]? = some (.str x.b) := nr rfl
theorem postAt_2 {x : Post} {v : AV} : partIs Tryz.prog 38 (postPs x) 2 v = fits Tryz.prog 9 v := by rw [partIs_of (o := 2) (T := 9) (by kernel_rfl)]; simp [postPs, AV.sizes, AV.size]
theorem postSet_2 {x : Post} {y : List UInt8} : (postPs x).set 2 (.str y) = postPs { x with b := y } := nr rfl
theorem sizes_post {x : Post} : AV.sizes (postPs x) = 3 := by simp [postPs, AV.sizes, AV.size]
theorem shapes_post {x : Post} : AV.shapes (postPs x) = [.leaf, .leaf, .leaf] := by simp [postPs, AV.shapes, AV.shape]
theorem fits_post {v : AV} : fits Tryz.prog 38 v = (v.isAgg = true ∧ v.size = 3) := fits_agg (by kernel_rfl) (by kernel_rfl)
theorem zero_post : zeroA Tryz.prog 12 38 = .agg (postPs post0) := by kernel_rfl
theorem zt_post : ZeroOf Tryz.prog 38 (.agg (postPs post0)) = True := eq_true ⟨_, _, rfl, rfl, rfl, rfl, rfl⟩
theorem built_post : Built Tryz.prog 38 = True := eq_true (by unfold Built; rw [Tryz.underlying38]; decide +kernel)
theorem strip_post {x : Post} : AV.strips (postPs x) = postPs x := by simp [postPs, AV.strips, AV.strip]
theorem noRef_post {x : Post} : AV.noRefs (postPs x) = true := by simp [postPs, AV.noRefs, AV.noRef]
structure Key where
  kind : Int
  who : Int
  number : Int
def key0 : Key := ⟨0, 0, 0⟩
def keyPs (x : Key) : List AV := [.int .i64 x.kind, .int .i64 x.who, .int .i64 x.number]
abbrev keyV (x : Key) : AV := .agg (keyPs x)
theorem keyPs_0 {x : Key} : (keyPs x)[0]? = some (.int .i64 x.kind) := nr rfl
theorem keyAt_0 {x : Key} {v : AV} : partIs Tryz.prog 87 (keyPs x) 0 v = fits Tryz.prog 3 v := by rw [partIs_of (o := 0) (T := 3) (by kernel_rfl)]; simp [keyPs, AV.sizes, AV.size]
theorem keySet_0 {x : Key} {y : Int} : (keyPs x).set 0 (.int .i64 y) = keyPs { x with kind := y } := nr rfl
theorem keyPs_1 {x : Key} : (keyPs x)[1]? = some (.int .i64 x.who) := nr rfl
theorem keyAt_1 {x : Key} {v : AV} : partIs Tryz.prog 87 (keyPs x) 1 v = fits Tryz.prog 3 v := by rw [partIs_of (o := 1) (T := 3) (by kernel_rfl)]; simp [keyPs, AV.sizes, AV.size]
theorem keySet_1 {x : Key} {y : Int} : (keyPs x).set 1 (.int .i64 y) = keyPs { x with who := y } := nr rfl
theorem keyPs_2 {x : Key} : (keyPs x)[2]? = some (.int .i64 x.number) := nr rfl
theorem keyAt_2 {x : Key} {v : AV} : partIs Tryz.prog 87 (keyPs x) 2 v = fits Tryz.prog 3 v := by rw [partIs_of (o := 2) (T := 3) (by kernel_rfl)]; simp [keyPs, AV.sizes, AV.size]
theorem keySet_2 {x : Key} {y : Int} : (keyPs x).set 2 (.int .i64 y) = keyPs { x with number := y } := nr rfl
theorem sizes_key {x : Key} : AV.sizes (keyPs x) = 3 := by simp [keyPs, AV.sizes, AV.size]
theorem shapes_key {x : Key} : AV.shapes (keyPs x) = [.leaf, .leaf, .leaf] := by simp [keyPs, AV.shapes, AV.shape]
theorem fits_key {v : AV} : fits Tryz.prog 87 v = (v.isAgg = true ∧ v.size = 3) := fits_agg (by kernel_rfl) (by kernel_rfl)
theorem zero_key : zeroA Tryz.prog 12 87 = .agg (keyPs key0) := by kernel_rfl
theorem zt_key : ZeroOf Tryz.prog 87 (.agg (keyPs key0)) = True := eq_true ⟨_, _, rfl, rfl, rfl, rfl, rfl⟩
theorem built_key : Built Tryz.prog 87 = True := eq_true (by unfold Built; rw [Tryz.underlying87]; decide +kernel)
theorem strip_key {x : Key} : AV.strips (keyPs x) = keyPs x := by simp [keyPs, AV.strips, AV.strip]
theorem noRef_key {x : Key} : AV.noRefs (keyPs x) = true := by simp [keyPs, AV.noRefs, AV.noRef]
structure Con where
  k : Key
  b : List UInt8
def con0 : Con := ⟨key0, []⟩
def conPs (x : Con) : List AV := [.agg (keyPs x.k), .str x.b]
abbrev conV (x : Con) : AV := .agg (conPs x)
theorem conPs_0 {x : Con} : (conPs x)[0]? = some (.agg (keyPs x.k)) := nr rfl
theorem conAt_0 {x : Con} {v : AV} : partIs Tryz.prog 89 (conPs x) 0 v = fits Tryz.prog 87 v := by rw [partIs_of (o := 0) (T := 87) (by kernel_rfl)]; simp [conPs, AV.sizes, AV.size]
theorem conSet_0 {x : Con} {y : Key} : (conPs x).set 0 (.agg (keyPs y)) = conPs { x with k := y } := nr rfl
theorem conPs_1 {x : Con} : (conPs x)[1]? = some (.str x.b) := nr rfl
theorem conAt_1 {x : Con} {v : AV} : partIs Tryz.prog 89 (conPs x) 1 v = fits Tryz.prog 9 v := by rw [partIs_of (o := 3) (T := 9) (by kernel_rfl)]; simp [conPs, AV.sizes, AV.size, sizes_key]
theorem conSet_1 {x : Con} {y : List UInt8} : (conPs x).set 1 (.str y) = conPs { x with b := y } := nr rfl
theorem sizes_con {x : Con} : AV.sizes (conPs x) = 4 := by simp [conPs, AV.sizes, AV.size, sizes_key]
theorem shapes_con {x : Con} : AV.shapes (conPs x) = [.node [.leaf, .leaf, .leaf], .leaf] := by simp [conPs, AV.shapes, AV.shape, shapes_key]
theorem fits_con {v : AV} : fits Tryz.prog 89 v = (v.isAgg = true ∧ v.size = 4) := fits_agg (by kernel_rfl) (by kernel_rfl)
theorem zero_con : zeroA Tryz.prog 12 89 = .agg (conPs con0) := by kernel_rfl
theorem zt_con : ZeroOf Tryz.prog 89 (.agg (conPs con0)) = True := eq_true ⟨_, _, rfl, rfl, rfl, rfl, rfl⟩
theorem built_con : Built Tryz.prog 89 = True := eq_true (by unfold Built; rw [Tryz.underlying89]; decide +kernel)
theorem strip_con {x : Con} : AV.strips (conPs x) = conPs x := by simp [conPs, AV.strips, AV.strip, strip_key]
theorem noRef_con {x : Con} : AV.noRefs (conPs x) = true := by simp [conPs, AV.noRefs, AV.noRef, noRef_key]
theorem eq_key {n : Nat} {a b : Key} : eqA Tryz.prog (n + 10) 87 (.agg (keyPs a)) (.agg (keyPs b)) = some (decide (a = b)) := by
  have hs : Tryz.prog.stoodInHeld 87 = false := by kernel_rfl
  simp only [eqA, Tryz.underlying87, hs, if_true]
  unfold keyPs
  rw [eqAs_cons ⟨by decide, by simp [AV.sizes, AV.size], by simp [AV.sizes, AV.size], by kernel_rfl, by simp [AV.size]; kernel_rfl, by kernel_rfl, by simp [AV.size]; kernel_rfl⟩ eq_int3]
  refine (Classical.em (a.kind = b.kind)).elim (fun h0 => ?_) (fun h0 => by rw [if_neg (by simpa using h0), decide_eq_false (fun e => h0 (congrArg Key.kind e))])
  rw [if_pos (by simpa using h0)]
  rw [eqAs_cons ⟨by decide, by simp [AV.sizes, AV.size], by simp [AV.sizes, AV.size], by kernel_rfl, by simp [AV.size]; kernel_rfl, by kernel_rfl, by simp [AV.size]; kernel_rfl⟩ eq_int3]
  refine (Classical.em (a.who = b.who)).elim (fun h1 => ?_) (fun h1 => by rw [if_neg (by simpa using h1), decide_eq_false (fun e => h1 (congrArg Key.who e))])
  rw [if_pos (by simpa using h1)]
  rw [eqAs_cons ⟨by decide, by simp [AV.sizes, AV.size], by simp [AV.sizes, AV.size], by kernel_rfl, by simp [AV.size]; kernel_rfl, by kernel_rfl, by simp [AV.size]; kernel_rfl⟩ eq_int3]
  refine (Classical.em (a.number = b.number)).elim (fun h2 => ?_) (fun h2 => by rw [if_neg (by simpa using h2), decide_eq_false (fun e => h2 (congrArg Key.number e))])
  rw [if_pos (by simpa using h2)]
  have e : a = b := by cases a; cases b; simp at h0 h1 h2 ⊢; exact ⟨h0, h1, h2⟩
  rw [decide_eq_true e]
  simp [eqAs]
theorem eq_con {a b : Con} : eqA Tryz.prog 40 89 (.agg (conPs a)) (.agg (conPs b)) = some (decide (a = b)) := by
  have hs : Tryz.prog.stoodInHeld 89 = false := by kernel_rfl
  simp only [eqA, Tryz.underlying89, hs, if_true]
  unfold conPs
  rw [eqAs_cons ⟨by decide, by simp [AV.sizes, AV.size], by simp [AV.sizes, AV.size], by kernel_rfl, by simp [AV.size, sizes_key]; kernel_rfl, by kernel_rfl, by simp [AV.size, sizes_key]; kernel_rfl⟩ eq_key]
  refine (Classical.em (a.k = b.k)).elim (fun h0 => ?_) (fun h0 => by rw [if_neg (by simpa using h0), decide_eq_false (fun e => h0 (congrArg Con.k e))])
  rw [if_pos (by simpa using h0)]
  rw [eqAs_cons ⟨by decide, by simp [AV.sizes, AV.size, sizes_key], by simp [AV.sizes, AV.size, sizes_key], by kernel_rfl, by simp [AV.size]; kernel_rfl, by kernel_rfl, by simp [AV.size]; kernel_rfl⟩ eq_str9]
  refine (Classical.em (a.b = b.b)).elim (fun h1 => ?_) (fun h1 => by rw [if_neg (by simpa using h1), decide_eq_false (fun e => h1 (congrArg Con.b e))])
  rw [if_pos (by simpa using h1)]
  have e : a = b := by cases a; cases b; simp at h0 h1 ⊢; exact ⟨h0, h1⟩
  rw [decide_eq_true e]
  simp [eqAs]
theorem key_ok {n : Nat} {a : Key} : keyOk Tryz.prog (n + 10) 87 (.agg (keyPs a)) = true := by
  simp only [keyOk, Tryz.underlying87, keyPs, keyOks, Tryz.underlying3]
  kernel_rfl
theorem con_ok {a : Con} : keyOk Tryz.prog 40 89 (.agg (conPs a)) = true := by
  simp only [keyOk, Tryz.underlying89, conPs, Tryz.underlying87, keyPs, keyOks, Tryz.underlying3, Tryz.underlying9]
  kernel_rfl
section
variable {κ : Type} {kf : κ → AV} {kt : TypeId}
/-- An entry: its birth, its key, how often. -/
def entV (kf : κ → AV) (x : Nat × κ × Int) : Nat × AV × AV := (x.1, kf x.2.1, .int .i64 x.2.2)
noncomputable def fnd (a : κ) (L : List (Nat × κ × Int)) : Option Nat := L.findIdx? fun x => decide (a = x.2.1)
theorem findE_eq (hk : ∀ a, keyOk Tryz.prog 40 kt (kf a) = true) (he : ∀ a b, eqA Tryz.prog 40 kt (kf a) (kf b) = some (decide (a = b))) {a : κ} : ∀ {L : List (Nat × κ × Int)}, findE Tryz.prog kt (kf a) (L.map (entV kf)) = some (fnd a L)
  | [] => rfl
  | x :: L => by
    have ih := findE_eq hk he (a := a) (L := L)
    simp only [List.map_cons, findE, entV, eqK, hk, if_true, he]
    unfold fnd at ih ⊢
    rw [List.findIdx?_cons]
    by_cases e : a = x.2.1
    · simp [e]
    · simp only [decide_eq_false e]
      change (findE Tryz.prog kt (kf a) (L.map (entV kf))).map _ = _
      rw [ih]; simp
/-- How often a key came. -/
noncomputable def cntK (a : κ) (L : List (Nat × κ × Int)) : Int := match fnd a L with
  | some j => match L[j]? with
    | some x => x.2.2
    | none => 0
  | none => 0
theorem fnd_some {a : κ} {L : List (Nat × κ × Int)} {j : Nat} (h : fnd a L = some j) : ∃ x, L[j]? = some x ∧ x.2.1 = a := by
  unfold fnd at h
  obtain ⟨hj, h1, _⟩ := List.findIdx?_eq_some_iff_getElem.1 h
  exact ⟨L[j], List.getElem?_eq_getElem hj, (of_decide_eq_true h1).symm⟩
/-- The map when a key's entry is there. -/
noncomputable def insK (a : κ) (L : List (Nat × κ × Int)) (ck : Nat) : List (Nat × κ × Int) := match fnd a L with
  | some _ => L
  | none => L ++ [(ck, a, 0)]
noncomputable def ckK (a : κ) (L : List (Nat × κ × Int)) (ck : Nat) : Nat := match fnd a L with
  | some _ => ck
  | none => ck + 1
theorem fnd_ins {a : κ} {L : List (Nat × κ × Int)} {ck : Nat} : ∃ j, fnd a (insK a L ck) = some j := by
  unfold insK
  cases h : fnd a L with
  | some j => exact ⟨j, h⟩
  | none =>
    unfold fnd at h ⊢
    exact ⟨L.length, by simp [List.findIdx?_append, h]⟩
theorem cnt_ins {a b : κ} {L : List (Nat × κ × Int)} {ck : Nat} : cntK b (insK a L ck) = cntK b L := by
  unfold insK
  cases h : fnd a L with
  | some j => rfl
  | none =>
    unfold cntK
    cases hb : fnd b L with
    | some j =>
      have : fnd b (L ++ [(ck, a, 0)]) = some j := by unfold fnd at hb ⊢; rw [List.findIdx?_append, hb]; rfl
      rw [this]
      obtain ⟨x, hx, _⟩ := fnd_some hb
      have hj := (List.getElem?_eq_some_iff.1 hx).1
      simp only []
      rw [List.getElem?_append_left hj]
    | none =>
      by_cases e : b = a
      · have : fnd b (L ++ [(ck, a, 0)]) = some L.length := by unfold fnd at hb ⊢; rw [List.findIdx?_append, hb]; simp [e]
        rw [this]; simp
      · have : fnd b (L ++ [(ck, a, 0)]) = none := by unfold fnd at hb ⊢; rw [List.findIdx?_append, hb]; simp [e]
        rw [this]
end
section
variable {κ : Type} {kf : κ → AV} {kt mt : TypeId} {σ : AST} {mi ck : Nat} {L : List (Nat × κ × Int)} {a : κ}
theorem modify_id {α : Type} {l : List α} {j : Nat} {f : α → α} (h : ∀ x, l[j]? = some x → f x = x) : l.modify j f = l := by
  apply List.ext_getElem?
  intro i
  rw [List.getElem?_modify]
  by_cases e : j = i
  · subst e
    cases hx : l[j]? with
    | none => simp
    | some x => simp [h x hx]
  · simp [e]
theorem modify_map {α β : Type} {l : List α} {j : Nat} {f : α → β} {g : α → α} {g' : β → β} (h : ∀ x, g' (f x) = f (g x)) : (l.map f).modify j g' = (l.modify j g).map f := by
  apply List.ext_getElem?
  intro i
  rw [List.getElem?_modify, List.getElem?_map, List.getElem?_map, List.getElem?_modify]
  cases l[i]? with
  | none => simp
  | some x =>
    by_cases e : j = i
    · simp [e, h]
    · simp [e]
theorem lookupK (hmt : Tryz.prog.underlying mt = some (.map kt 3)) (hk : ∀ a, keyOk Tryz.prog 40 kt (kf a) = true) (he : ∀ a b, eqA Tryz.prog 40 kt (kf a) (kf b) = some (decide (a = b)))
    (o : σ.objs[mi]? = some (.map (L.map (entV kf)) ck)) {K : AV → Prop} (hK : K (.int .i64 (cntK a L))) : lookupW Tryz.prog σ mt (.mp (some mi)) (kf a) false K := by
  refine ⟨kt, 3, hmt, hk a, ?_⟩
  simp only [o]
  refine ⟨fnd a L, findE_eq hk he, ?_⟩
  unfold cntK at hK
  cases h : fnd a L with
  | none =>
    rw [h] at hK
    exact ⟨by rw [show zeroA Tryz.prog 12 3 = .int .i64 0 from zero3]; exact ⟨_, _, rfl, rfl, rfl, rfl, rfl⟩, by rw [show zeroA Tryz.prog 12 3 = .int .i64 0 from zero3]; exact hK⟩
  | some j =>
    rw [h] at hK
    intro e hj
    rw [List.getElem?_map, Option.map_eq_some_iff] at hj
    obtain ⟨x, hx, rfl⟩ := hj
    simp only [hx] at hK
    exact hK
theorem entryK (hmt : Tryz.prog.underlying mt = some (.map kt 3)) (hk : ∀ a, keyOk Tryz.prog 40 kt (kf a) = true) (he : ∀ a b, eqA Tryz.prog 40 kt (kf a) (kf b) = some (decide (a = b)))
    (o : σ.objs[mi]? = some (.map (L.map (entV kf)) ck)) {K : AV → AST → Prop}
    (hK : ∀ j x, fnd a (insK a L ck) = some j → (insK a L ck)[j]? = some x → K (.tuple [.int .i64 (cntK a L), .int .i64 x.1]) (σ.set mi (.map ((insK a L ck).map (entV kf)) (ckK a L ck)))) : mapEntryW Tryz.prog σ mt (.mp (some mi)) (kf a) K := by
  refine ⟨kt, 3, hmt, hk a, ?_⟩
  simp only [o]
  refine ⟨fnd a L, findE_eq hk he, ?_⟩
  unfold insK cntK ckK at hK
  cases h : fnd a L with
  | none =>
    simp only [h] at hK
    have hz : zeroA Tryz.prog 12 3 = .int .i64 0 := zero3
    have hf : fnd a (L ++ [(ck, a, 0)]) = some L.length := by unfold fnd at h ⊢; rw [List.findIdx?_append, h]; simp
    have := hK L.length (ck, a, 0) hf (by simp)
    simp only [hz]
    exact ⟨⟨_, _, rfl, rfl, rfl, rfl, rfl⟩, by simpa [entV] using this⟩
  | some j =>
    simp only [h] at hK
    intro e hj
    rw [List.getElem?_map, Option.map_eq_some_iff] at hj
    obtain ⟨x, hx, rfl⟩ := hj
    have hm : (L.map (entV kf)).modify j (fun e => (e.1, kf a, e.2.2)) = L.map (entV kf) := modify_id fun y hy => by
      rw [List.getElem?_map, hx] at hy
      obtain ⟨z, hz, hza⟩ := fnd_some h
      rw [hx] at hz
      cases hz
      cases hy
      simp [entV, hza]
    have := hK j x rfl hx
    simp only [hx] at this
    simp only [hm]
    exact this
/-- The map with a key's number. -/
noncomputable def setK (a : κ) (n : Int) (L : List (Nat × κ × Int)) : List (Nat × κ × Int) := match fnd a L with
  | some j => L.modify j fun e => (e.1, e.2.1, n)
  | none => L
theorem storeK (o : σ.objs[mi]? = some (.map (L.map (entV kf)) ck)) {j : Nat} {x : Nat × κ × Int} (h : fnd a L = some j) (hx : L[j]? = some x) {q : IntKind} {n : Int} {K : AST → Prop}
    (hK : K (σ.set mi (.map ((setK a n L).map (entV kf)) ck))) : entryStoreW σ (.mp (some mi)) (.int q x.1) (.int .i64 n) K := by
  refine ⟨rfl, ?_⟩
  simp only [o]
  refine ⟨j, entV kf x, by rw [List.getElem?_map, hx]; rfl, rfl, ?_⟩
  have hm : (L.map (entV kf)).modify j (fun e => (e.1, e.2.1, AV.int .i64 n)) = (L.modify j fun e => (e.1, e.2.1, n)).map (entV kf) := modify_map (f := entV kf) (g := fun e => (e.1, e.2.1, n)) (fun y => rfl)
  rw [hm]
  unfold setK at hK
  rw [h] at hK
  exact hK
theorem fnd_set {b : κ} {n : Int} : fnd b (setK a n L) = fnd b L := by
  unfold setK
  cases h : fnd a L with
  | none => rfl
  | some j =>
    have e : ∀ l : List (Nat × κ × Int), fnd b l = (l.map fun x => x.2.1).findIdx? fun y => decide (b = y) := fun l => by unfold fnd; rw [List.findIdx?_map]; rfl
    have e2 : (L.modify j fun e => (e.1, e.2.1, n)).map (fun x => x.2.1) = L.map fun x => x.2.1 := by
      have h1 := modify_map (l := L) (j := j) (f := fun x : Nat × κ × Int => x.2.1) (g := fun e => (e.1, e.2.1, n)) (g' := id) (fun y => rfl)
      rw [← h1]; exact modify_id fun _ _ => rfl
    simp only [e, e2]
theorem cnt_set {b : κ} {n : Int} {j : Nat} (h : fnd a L = some j) : cntK b (setK a n L) = if b = a then n else cntK b L := by
  unfold cntK
  rw [fnd_set]
  obtain ⟨x, hx, hxa⟩ := fnd_some h
  by_cases e : b = a
  · subst e
    rw [if_pos rfl, h]
    simp only [setK, h, List.getElem?_modify, hx]
    simp
  · rw [if_neg e]
    cases hb : fnd b L with
    | none => rfl
    | some i =>
      obtain ⟨y, hy, hyb⟩ := fnd_some hb
      have hne : j ≠ i := fun e2 => by subst e2; rw [hx] at hy; cases hy; exact e (hyb.symm.trans hxa)
      simp only [setK, h, List.getElem?_modify, hy]
      simp [hne]
end
end Go.Aff.L10

/- Layer 32, walked: counts. -/
-- cuts
namespace Go.Aff.L10
open Go.Proofs Go.Aff Go.Aff.L01 Classical
set_option linter.unusedVariables false
set_option linter.unusedSimpArgs false
set_option maxRecDepth 20000
attribute [local go_sem] push_app app_app length_app cellAt_app cellAt_app0 set_app set_app0 objs_app objs_app0 List.cons_append List.nil_append List.length_cons List.length_nil List.getElem?_cons_zero List.getElem?_cons_succ List.set_cons_zero List.set_cons_succ List.length_map
attribute [-go_sem] cellAt_new
attribute [-simp] List.length_flatMap
attribute [local go_sem] Tryz.underlying3 Tryz.underlying4 Tryz.underlying5 Tryz.underlying9 Tryz.underlying39 Tryz.underlying40 Tryz.underlying43 Tryz.underlying25 Tryz.underlying50 Tryz.underlying76 subPs_0 subAt_0 subSet_0 subPs_1 subAt_1 subSet_1 subPs_2 subAt_2 subSet_2 subPs_3 subAt_3 subSet_3 subPs_4 subAt_4 subSet_4 subPs_5 subAt_5 subSet_5 sizes_sub shapes_sub fits_sub zero_sub zt_sub built_sub Tryz.underlying42 pendPs_0 pendAt_0 pendSet_0 pendPs_1 pendAt_1 pendSet_1 pendPs_2 pendAt_2 pendSet_2 pendPs_3 pendAt_3 pendSet_3 pendPs_4 pendAt_4 pendSet_4 pendPs_5 pendAt_5 pendSet_5 sizes_pend shapes_pend fits_pend zero_pend zt_pend built_pend Tryz.underlying104 repPs_0 repAt_0 repSet_0 repPs_1 repAt_1 repSet_1 repPs_2 repAt_2 repSet_2 repPs_3 repAt_3 repSet_3 repPs_4 repAt_4 repSet_4 repPs_5 repAt_5 repSet_5 repPs_6 repAt_6 repSet_6 repPs_7 repAt_7 repSet_7 repPs_8 repAt_8 repSet_8 repPs_9 repAt_9 repSet_9 sizes_rep shapes_rep fits_rep zero_rep zt_rep built_rep Tryz.underlying45 blobPs_0 blobAt_0 blobSet_0 blobPs_1 blobAt_1 blobSet_1 blobPs_2 blobAt_2 blobSet_2 blobPs_3 blobAt_3 blobSet_3 sizes_blob shapes_blob fits_blob zero_blob zt_blob built_blob Tryz.underlying47 msgPs_0 msgAt_0 msgSet_0 msgPs_1 msgAt_1 msgSet_1 msgPs_2 msgAt_2 msgSet_2 msgPs_3 msgAt_3 msgSet_3 msgPs_4 msgAt_4 msgSet_4 msgPs_5 msgAt_5 msgSet_5 msgPs_6 msgAt_6 msgSet_6 msgPs_7 msgAt_7 msgSet_7 msgPs_8 msgAt_8 msgSet_8 msgPs_9 msgAt_9 msgSet_9 sizes_msg shapes_msg fits_msg zero_msg zt_msg built_msg Tryz.underlying49 at_Ps_0 at_Set_0 at_Ps_1 at_Set_1 sizes_at_ shapes_at_
attribute [local go_sem] fits3 fits4 fits5 fits9 fits23 fits26 fits31 fits34 fits52 zt3 zero3 zt34 zero34 zt23 zero23 bin_sub_eql bin_pend_eql bin_pend_neq bin_blob_eql bin_dig23_eql bin_dig23_neq slice23
attribute [local go_sem ↓] blockQ_exit2
attribute [local simp] dig_ext
attribute [local go_sem] postPs_0 postAt_0 postSet_0 postPs_1 postAt_1 postSet_1 postPs_2 postAt_2 postSet_2 sizes_post shapes_post fits_post zero_post zt_post built_post Tryz.underlying38 keyPs_0 keyAt_0 keySet_0 keyPs_1 keyAt_1 keySet_1 keyPs_2 keyAt_2 keySet_2 sizes_key shapes_key fits_key zero_key zt_key built_key Tryz.underlying87 conPs_0 conAt_0 conSet_0 conPs_1 conAt_1 conSet_1 sizes_con shapes_con fits_con zero_con zt_con built_con Tryz.underlying89 Tryz.underlying22 Tryz.underlying28 Tryz.underlying29 Tryz.underlying31 Tryz.underlying24 Tryz.underlying25 Tryz.underlying125 Tryz.underlying127 Tryz.underlying128 Tryz.underlying130
theorem fits102 {o : Option Nat} : fits Tryz.prog 128 (.mp o) = True := by rw [fits_leaf (P := Tryz.prog) (t := 128) (by kernel_rfl) (by kernel_rfl)]; simp [AV.isAgg, AV.size]
theorem fits99 {o : Option Nat} : fits Tryz.prog 125 (.mp o) = True := by rw [fits_leaf (P := Tryz.prog) (t := 125) (by kernel_rfl) (by kernel_rfl)]; simp [AV.isAgg, AV.size]
theorem cntAt104 {x y : Option Nat} : partIs Tryz.prog 130 [.mp x] 0 (.mp y) = True := by rw [partIs_of (o := 0) (T := 128) (by kernel_rfl)]; simp [AV.sizes, AV.size, fits102]
theorem cntAt101 {x y : Option Nat} : partIs Tryz.prog 127 [.mp x] 0 (.mp y) = True := by rw [partIs_of (o := 0) (T := 125) (by kernel_rfl)]; simp [AV.sizes, AV.size, fits99]
attribute [local go_sem] fits102 fits99 cntAt104 cntAt101
theorem shape_mp {o : Option Nat} : (AV.mp o).shape = .leaf := by simp [AV.shape]
attribute [local go_sem] shape_mp
theorem zero101 : zeroA Tryz.prog 12 127 = .agg [.mp none] := by kernel_rfl
theorem zt101 : ZeroOf Tryz.prog 127 (.agg [.mp none]) = True := eq_true ⟨_, _, rfl, rfl, rfl, rfl, rfl⟩
theorem built101 : Built Tryz.prog 127 = True := eq_true (by unfold Built; rw [Tryz.underlying127]; decide +kernel)
theorem fits101 {v : AV} : fits Tryz.prog 127 v = (v.isAgg = true ∧ v.size = 1) := fits_agg (by kernel_rfl) (by kernel_rfl)
theorem zero104 : zeroA Tryz.prog 12 130 = .agg [.mp none] := by kernel_rfl
theorem zt104 : ZeroOf Tryz.prog 130 (.agg [.mp none]) = True := eq_true ⟨_, _, rfl, rfl, rfl, rfl, rfl⟩
theorem built104 : Built Tryz.prog 130 = True := eq_true (by unfold Built; rw [Tryz.underlying130]; decide +kernel)
theorem fits104 {v : AV} : fits Tryz.prog 130 v = (v.isAgg = true ∧ v.size = 1) := fits_agg (by kernel_rfl) (by kernel_rfl)
attribute [local go_sem] zero101 zt101 built101 fits101 zero104 zt104 built104 fits104
theorem set_set' {s : AST} {i : Nat} {a b : AObj} : (s.set i a).set i b = s.set i b := by simp [AST.set]
theorem objs_setS' {s : AST} {k : Nat} {o : AObj} (h : k < s.objs.length) : (s.set k o).objs[k]? = some o := by simp only [AST.set]; rw [List.getElem?_set_self h]
theorem objs_setN' {s : AST} {j k : Nat} {o : AObj} (h : j ≠ k) : (s.set j o).objs[k]? = s.objs[k]? := by simp only [AST.set]; rw [List.getElem?_set_ne h]
theorem set_app' {s : AST} {i : Nat} {o : AObj} {l : List AObj} (h : i < s.objs.length) : (s.app l).set i o = (s.set i o).app l := by
  simp only [AST.set, AST.app]; rw [List.set_append_left _ _ h]
abbrev keyF (a : Key) : AV := .agg (keyPs a)
abbrev conF (a : Con) : AV := .agg (conPs a)
theorem addKey_c {σ : AST} {c mi ck : Nat} {L : List (Nat × Key × Int)} {a : Key} {K : AV → AST → Prop} (oc : σ.objs[c]? = some (.cells (.agg [.mp (some mi)]))) (om : σ.objs[mi]? = some (.map (L.map (entV keyF)) ck)) (h0 : 0 ≤ cntK a L) (h1 : cntK a L ≤ 1000000)
    (hK : K (.int .i64 (cntK a L + 1)) ((σ.set mi (.map ((setK a (cntK a L + 1) (insK a L ck)).map (entV keyF)) (ckK a L ck))).app [.cells (keyF a)])) : TCalls Tryz.prog 41 [.ptr (some (c, [])), keyF a] σ K := by
  have hlc := (List.getElem?_eq_some_iff.1 oc).1
  have hlm := (List.getElem?_eq_some_iff.1 om).1
  have hcm : c ≠ mi := fun e => by subst e; rw [om] at oc; cases oc
  have ocA := fun l => objs_known_app oc l
  have cA := fun l => cellAt_known (ocA l)
  have omA := fun l => objs_known_app om l
  refine tcalls_walk Tryz.f41 _ [.tmp 4] Tryz.func41 rfl rfl rfl mixed (Nat.le_of_ble_eq_true rfl) rfl fun hlen => ?_
  repeat' (first | (simp -dsimp only [↓reduceIte, go_sem, cA, ocA]) | (refine arr_intro fun _ => ?_) | (refine later_intro ⟨keeps_nil, ?_⟩) | (refine later_intro ⟨keeps_refl, ?_⟩) | (with_reducible refine keeps_go ?_ ?_; focus (first | (simp [keeps_cons, keeps_none, objs_app, objs_app0]; done) | (simp only [keeps_cons, keeps_none, objs_app0, objs_app, and_true]; first | rfl | exact ⟨rfl, rfl⟩ | exact ⟨rfl, rfl, rfl⟩))) | (with_reducible refine (And.intro (a := keeps _ _ _) ?_ ?_); focus (first | (simp [keeps_cons, keeps_none, objs_app, objs_app0]; done) | (simp only [keeps_cons, keeps_none, objs_app0, objs_app, and_true]; first | rfl | exact ⟨rfl, rfl⟩ | exact ⟨rfl, rfl, rfl⟩))) | (refine both_ways ?_ ?_) | (rw [wrap_i64 (by omega) (by omega)]) | (refine guardV_split (fun h => ?_) (fun h => ?_) <;> (try rw [h]) <;> (try simp at h) <;> (try (exfalso; omega))) | (with_reducible refine awp_drawU (id := 1) (.op 0 2 (.op 1 2 (.op 2 2 (.op 3 2 (.op 4 2 (.fork 5 (.op 5 1 (.op 6 0 (.op 7 1 (.cut (.op 8 2 (.op 9 1 .nil)))))) (.op 7 1 (.op 8 0 (.op 5 1 (.cut (.op 6 2 (.op 9 1 .nil)))))))))))) (by kernel_rfl) ?_) | (refine lookupK (a := a) Tryz.underlying128 (fun _ => key_ok (n := 30)) (fun _ _ => eq_key (n := 30)) (omA _) ?_))
  · refine entryK (a := a) Tryz.underlying128 (fun _ => key_ok (n := 30)) (fun _ _ => eq_key (n := 30)) (omA _) fun j x hj hx => ?_
    generalize hs1 : (σ.app [.cells (keyF a)]).set mi _ = s1
    have o1 : s1.objs[mi]? = some (.map ((insK a L ck).map (entV keyF)) (ckK a L ck)) := by subst hs1; exact objs_setS' (Nat.lt_of_lt_of_le hlm (by simp [AST.app]))
    have c1 : s1.objs[c]? = some (.cells (.agg [.mp (some mi)])) := by subst hs1; rw [objs_setN' (Ne.symm hcm)]; exact ocA _
    have b1 : s1.objs[σ.objs.length]? = some (.cells (keyF a)) := by subst hs1; rw [objs_setN' (by omega)]; exact objs_app0
    have cc1 := cellAt_known c1
    have cb1 := cellAt_known b1
    have hwr : IntKind.i64.wrap (cntK a L + 1) = cntK a L + 1 := wrap_i64 (by omega) (by omega)
    have hci : cntK a (insK a L ck) = cntK a L := cnt_ins
    have hs2 : s1.set mi (.map ((setK a (cntK a L + 1) (insK a L ck)).map (entV keyF)) (ckK a L ck)) = (σ.set mi (.map ((setK a (cntK a L + 1) (insK a L ck)).map (entV keyF)) (ckK a L ck))).app [.cells (keyF a)] := by
      subst hs1; rw [set_set', set_app' hlm]
    repeat' (first | (simp -dsimp only [↓reduceIte, go_sem, cc1, cb1, hwr]) | (refine arr_intro fun _ => ?_) | (refine later_intro ⟨keeps_nil, ?_⟩) | (refine later_intro ⟨keeps_refl, ?_⟩) | (with_reducible refine keeps_go ?_ ?_; focus (first | (simp [keeps_cons, keeps_none, objs_app, objs_app0]; done) | (simp only [keeps_cons, keeps_none, objs_app0, objs_app, and_true]; first | rfl | exact ⟨rfl, rfl⟩ | exact ⟨rfl, rfl, rfl⟩))) | (with_reducible refine (And.intro (a := keeps _ _ _) ?_ ?_); focus (first | (simp [keeps_cons, keeps_none, objs_app, objs_app0]; done) | (simp only [keeps_cons, keeps_none, objs_app0, objs_app, and_true]; first | rfl | exact ⟨rfl, rfl⟩ | exact ⟨rfl, rfl, rfl⟩))) | (refine both_ways ?_ ?_) | (rw [wrap_i64 (by omega) (by omega)]) | (refine guardV_split (fun h => ?_) (fun h => ?_) <;> (try rw [h]) <;> (try simp at h) <;> (try (exfalso; omega))) | (refine storeK (a := a) o1 hj hx ?_))
    generalize hs3 : s1.set mi (.map ((setK a (cntK a L + 1) (insK a L ck)).map (entV keyF)) (ckK a L ck)) = s2 at hs2 ⊢
    rw [← hs2] at hK
    have hl1 : mi < s1.objs.length := (List.getElem?_eq_some_iff.1 o1).1
    have o2 : s2.objs[mi]? = some (.map ((setK a (cntK a L + 1) (insK a L ck)).map (entV keyF)) (ckK a L ck)) := by subst hs3; exact objs_setS' hl1
    have c2 : s2.objs[c]? = some (.cells (.agg [.mp (some mi)])) := by subst hs3; rw [objs_setN' (Ne.symm hcm)]; exact c1
    have b2 : s2.objs[σ.objs.length]? = some (.cells (keyF a)) := by subst hs3; rw [objs_setN' (by omega)]; exact b1
    have cc2 := cellAt_known c2
    have cb2 := cellAt_known b2
    have hfin : cntK a (setK a (cntK a L + 1) (insK a L ck)) = cntK a L + 1 := by rw [cnt_set hj, if_pos rfl]
    repeat' (first | (simp -dsimp only [↓reduceIte, go_sem, cc2, cb2, hfin]) | (refine arr_intro fun _ => ?_) | (refine later_intro ⟨keeps_nil, ?_⟩) | (refine later_intro ⟨keeps_refl, ?_⟩) | (with_reducible refine keeps_go ?_ ?_; focus (first | (simp [keeps_cons, keeps_none, objs_app, objs_app0]; done) | (simp only [keeps_cons, keeps_none, objs_app0, objs_app, and_true]; first | rfl | exact ⟨rfl, rfl⟩ | exact ⟨rfl, rfl, rfl⟩))) | (with_reducible refine (And.intro (a := keeps _ _ _) ?_ ?_); focus (first | (simp [keeps_cons, keeps_none, objs_app, objs_app0]; done) | (simp only [keeps_cons, keeps_none, objs_app0, objs_app, and_true]; first | rfl | exact ⟨rfl, rfl⟩ | exact ⟨rfl, rfl, rfl⟩))) | (refine both_ways ?_ ?_) | (rw [wrap_i64 (by omega) (by omega)]) | (refine guardV_split (fun h => ?_) (fun h => ?_) <;> (try rw [h]) <;> (try simp at h) <;> (try (exfalso; omega))) | (with_reducible refine awp_drawT (id := 2) (.op 0 2 (.op 1 2 (.op 2 2 (.op 3 2 (.op 4 2 (.op 5 1 (.op 6 2 .nil))))))) (by kernel_rfl) ?_) | (refine lookupK (a := a) Tryz.underlying128 (fun _ => key_ok (n := 30)) (fun _ _ => eq_key (n := 30)) o2 ?_))
    exact hK
  · refine entryK (a := a) Tryz.underlying128 (fun _ => key_ok (n := 30)) (fun _ _ => eq_key (n := 30)) (omA _) fun j x hj hx => ?_
    generalize hs1 : (σ.app [.cells (keyF a)]).set mi _ = s1
    have o1 : s1.objs[mi]? = some (.map ((insK a L ck).map (entV keyF)) (ckK a L ck)) := by subst hs1; exact objs_setS' (Nat.lt_of_lt_of_le hlm (by simp [AST.app]))
    have c1 : s1.objs[c]? = some (.cells (.agg [.mp (some mi)])) := by subst hs1; rw [objs_setN' (Ne.symm hcm)]; exact ocA _
    have b1 : s1.objs[σ.objs.length]? = some (.cells (keyF a)) := by subst hs1; rw [objs_setN' (by omega)]; exact objs_app0
    have cc1 := cellAt_known c1
    have cb1 := cellAt_known b1
    have hwr : IntKind.i64.wrap (cntK a L + 1) = cntK a L + 1 := wrap_i64 (by omega) (by omega)
    have hci : cntK a (insK a L ck) = cntK a L := cnt_ins
    have hs2 : s1.set mi (.map ((setK a (cntK a L + 1) (insK a L ck)).map (entV keyF)) (ckK a L ck)) = (σ.set mi (.map ((setK a (cntK a L + 1) (insK a L ck)).map (entV keyF)) (ckK a L ck))).app [.cells (keyF a)] := by
      subst hs1; rw [set_set', set_app' hlm]
    repeat' (first | (simp -dsimp only [↓reduceIte, go_sem, cc1, cb1, hwr, hci]) | (refine arr_intro fun _ => ?_) | (refine later_intro ⟨keeps_nil, ?_⟩) | (refine later_intro ⟨keeps_refl, ?_⟩) | (with_reducible refine keeps_go ?_ ?_; focus (first | (simp [keeps_cons, keeps_none, objs_app, objs_app0]; done) | (simp only [keeps_cons, keeps_none, objs_app0, objs_app, and_true]; first | rfl | exact ⟨rfl, rfl⟩ | exact ⟨rfl, rfl, rfl⟩))) | (with_reducible refine (And.intro (a := keeps _ _ _) ?_ ?_); focus (first | (simp [keeps_cons, keeps_none, objs_app, objs_app0]; done) | (simp only [keeps_cons, keeps_none, objs_app0, objs_app, and_true]; first | rfl | exact ⟨rfl, rfl⟩ | exact ⟨rfl, rfl, rfl⟩))) | (refine both_ways ?_ ?_) | (rw [wrap_i64 (by omega) (by omega)]) | (refine guardV_split (fun h => ?_) (fun h => ?_) <;> (try rw [h]) <;> (try simp at h) <;> (try (exfalso; omega))) | (refine lookupK (a := a) Tryz.underlying128 (fun _ => key_ok (n := 30)) (fun _ _ => eq_key (n := 30)) o1 ?_) | (refine storeK (a := a) o1 hj hx ?_))
    generalize hs3 : s1.set mi (.map ((setK a (cntK a L + 1) (insK a L ck)).map (entV keyF)) (ckK a L ck)) = s2 at hs2 ⊢
    rw [← hs2] at hK
    have hl1 : mi < s1.objs.length := (List.getElem?_eq_some_iff.1 o1).1
    have o2 : s2.objs[mi]? = some (.map ((setK a (cntK a L + 1) (insK a L ck)).map (entV keyF)) (ckK a L ck)) := by subst hs3; exact objs_setS' hl1
    have c2 : s2.objs[c]? = some (.cells (.agg [.mp (some mi)])) := by subst hs3; rw [objs_setN' (Ne.symm hcm)]; exact c1
    have b2 : s2.objs[σ.objs.length]? = some (.cells (keyF a)) := by subst hs3; rw [objs_setN' (by omega)]; exact b1
    have cc2 := cellAt_known c2
    have cb2 := cellAt_known b2
    have hfin : cntK a (setK a (cntK a L + 1) (insK a L ck)) = cntK a L + 1 := by rw [cnt_set hj, if_pos rfl]
    repeat' (first | (simp -dsimp only [↓reduceIte, go_sem, cc2, cb2, hfin]) | (refine arr_intro fun _ => ?_) | (refine later_intro ⟨keeps_nil, ?_⟩) | (refine later_intro ⟨keeps_refl, ?_⟩) | (with_reducible refine keeps_go ?_ ?_; focus (first | (simp [keeps_cons, keeps_none, objs_app, objs_app0]; done) | (simp only [keeps_cons, keeps_none, objs_app0, objs_app, and_true]; first | rfl | exact ⟨rfl, rfl⟩ | exact ⟨rfl, rfl, rfl⟩))) | (with_reducible refine (And.intro (a := keeps _ _ _) ?_ ?_); focus (first | (simp [keeps_cons, keeps_none, objs_app, objs_app0]; done) | (simp only [keeps_cons, keeps_none, objs_app0, objs_app, and_true]; first | rfl | exact ⟨rfl, rfl⟩ | exact ⟨rfl, rfl, rfl⟩))) | (refine both_ways ?_ ?_) | (rw [wrap_i64 (by omega) (by omega)]) | (refine guardV_split (fun h => ?_) (fun h => ?_) <;> (try rw [h]) <;> (try simp at h) <;> (try (exfalso; omega))) | (with_reducible refine awp_drawT (id := 2) (.op 0 2 (.op 1 2 (.op 2 2 (.op 3 2 (.op 4 2 (.op 5 1 (.op 6 2 .nil))))))) (by kernel_rfl) ?_) | (refine lookupK (a := a) Tryz.underlying128 (fun _ => key_ok (n := 30)) (fun _ _ => eq_key (n := 30)) o2 ?_))
    exact hK
theorem addCon_c {σ : AST} {c mi ck : Nat} {L : List (Nat × Con × Int)} {a : Con} {K : AV → AST → Prop} (oc : σ.objs[c]? = some (.cells (.agg [.mp (some mi)]))) (om : σ.objs[mi]? = some (.map (L.map (entV conF)) ck)) (h0 : 0 ≤ cntK a L) (h1 : cntK a L ≤ 1000000)
    (hK : K (.int .i64 (cntK a L + 1)) ((σ.set mi (.map ((setK a (cntK a L + 1) (insK a L ck)).map (entV conF)) (ckK a L ck))).app [.cells (conF a)])) : TCalls Tryz.prog 38 [.ptr (some (c, [])), conF a] σ K := by
  have hlc := (List.getElem?_eq_some_iff.1 oc).1
  have hlm := (List.getElem?_eq_some_iff.1 om).1
  have hcm : c ≠ mi := fun e => by subst e; rw [om] at oc; cases oc
  have ocA := fun l => objs_known_app oc l
  have cA := fun l => cellAt_known (ocA l)
  have omA := fun l => objs_known_app om l
  refine tcalls_walk Tryz.f38 _ [.tmp 4] Tryz.func38 rfl rfl rfl mixed (Nat.le_of_ble_eq_true rfl) rfl fun hlen => ?_
  repeat' (first | (simp -dsimp only [↓reduceIte, go_sem, cA, ocA]) | (refine arr_intro fun _ => ?_) | (refine later_intro ⟨keeps_nil, ?_⟩) | (refine later_intro ⟨keeps_refl, ?_⟩) | (with_reducible refine keeps_go ?_ ?_; focus (first | (simp [keeps_cons, keeps_none, objs_app, objs_app0]; done) | (simp only [keeps_cons, keeps_none, objs_app0, objs_app, and_true]; first | rfl | exact ⟨rfl, rfl⟩ | exact ⟨rfl, rfl, rfl⟩))) | (with_reducible refine (And.intro (a := keeps _ _ _) ?_ ?_); focus (first | (simp [keeps_cons, keeps_none, objs_app, objs_app0]; done) | (simp only [keeps_cons, keeps_none, objs_app0, objs_app, and_true]; first | rfl | exact ⟨rfl, rfl⟩ | exact ⟨rfl, rfl, rfl⟩))) | (refine both_ways ?_ ?_) | (rw [wrap_i64 (by omega) (by omega)]) | (refine guardV_split (fun h => ?_) (fun h => ?_) <;> (try rw [h]) <;> (try simp at h) <;> (try (exfalso; omega))) | (with_reducible refine awp_drawU (id := 1) (.op 0 2 (.op 1 2 (.op 2 2 (.op 3 2 (.op 4 2 (.fork 5 (.op 5 1 (.op 6 0 (.op 7 1 (.cut (.op 8 2 (.op 9 1 .nil)))))) (.op 7 1 (.op 8 0 (.op 5 1 (.cut (.op 6 2 (.op 9 1 .nil)))))))))))) (by kernel_rfl) ?_) | (refine lookupK (a := a) Tryz.underlying125 (fun _ => con_ok) (fun _ _ => eq_con) (omA _) ?_))
  · refine entryK (a := a) Tryz.underlying125 (fun _ => con_ok) (fun _ _ => eq_con) (omA _) fun j x hj hx => ?_
    generalize hs1 : (σ.app [.cells (conF a)]).set mi _ = s1
    have o1 : s1.objs[mi]? = some (.map ((insK a L ck).map (entV conF)) (ckK a L ck)) := by subst hs1; exact objs_setS' (Nat.lt_of_lt_of_le hlm (by simp [AST.app]))
    have c1 : s1.objs[c]? = some (.cells (.agg [.mp (some mi)])) := by subst hs1; rw [objs_setN' (Ne.symm hcm)]; exact ocA _
    have b1 : s1.objs[σ.objs.length]? = some (.cells (conF a)) := by subst hs1; rw [objs_setN' (by omega)]; exact objs_app0
    have cc1 := cellAt_known c1
    have cb1 := cellAt_known b1
    have hwr : IntKind.i64.wrap (cntK a L + 1) = cntK a L + 1 := wrap_i64 (by omega) (by omega)
    have hci : cntK a (insK a L ck) = cntK a L := cnt_ins
    have hs2 : s1.set mi (.map ((setK a (cntK a L + 1) (insK a L ck)).map (entV conF)) (ckK a L ck)) = (σ.set mi (.map ((setK a (cntK a L + 1) (insK a L ck)).map (entV conF)) (ckK a L ck))).app [.cells (conF a)] := by
      subst hs1; rw [set_set', set_app' hlm]
    repeat' (first | (simp -dsimp only [↓reduceIte, go_sem, cc1, cb1, hwr]) | (refine arr_intro fun _ => ?_) | (refine later_intro ⟨keeps_nil, ?_⟩) | (refine later_intro ⟨keeps_refl, ?_⟩) | (with_reducible refine keeps_go ?_ ?_; focus (first | (simp [keeps_cons, keeps_none, objs_app, objs_app0]; done) | (simp only [keeps_cons, keeps_none, objs_app0, objs_app, and_true]; first | rfl | exact ⟨rfl, rfl⟩ | exact ⟨rfl, rfl, rfl⟩))) | (with_reducible refine (And.intro (a := keeps _ _ _) ?_ ?_); focus (first | (simp [keeps_cons, keeps_none, objs_app, objs_app0]; done) | (simp only [keeps_cons, keeps_none, objs_app0, objs_app, and_true]; first | rfl | exact ⟨rfl, rfl⟩ | exact ⟨rfl, rfl, rfl⟩))) | (refine both_ways ?_ ?_) | (rw [wrap_i64 (by omega) (by omega)]) | (refine guardV_split (fun h => ?_) (fun h => ?_) <;> (try rw [h]) <;> (try simp at h) <;> (try (exfalso; omega))) | (refine storeK (a := a) o1 hj hx ?_))
    generalize hs3 : s1.set mi (.map ((setK a (cntK a L + 1) (insK a L ck)).map (entV conF)) (ckK a L ck)) = s2 at hs2 ⊢
    rw [← hs2] at hK
    have hl1 : mi < s1.objs.length := (List.getElem?_eq_some_iff.1 o1).1
    have o2 : s2.objs[mi]? = some (.map ((setK a (cntK a L + 1) (insK a L ck)).map (entV conF)) (ckK a L ck)) := by subst hs3; exact objs_setS' hl1
    have c2 : s2.objs[c]? = some (.cells (.agg [.mp (some mi)])) := by subst hs3; rw [objs_setN' (Ne.symm hcm)]; exact c1
    have b2 : s2.objs[σ.objs.length]? = some (.cells (conF a)) := by subst hs3; rw [objs_setN' (by omega)]; exact b1
    have cc2 := cellAt_known c2
    have cb2 := cellAt_known b2
    have hfin : cntK a (setK a (cntK a L + 1) (insK a L ck)) = cntK a L + 1 := by rw [cnt_set hj, if_pos rfl]
    repeat' (first | (simp -dsimp only [↓reduceIte, go_sem, cc2, cb2, hfin]) | (refine arr_intro fun _ => ?_) | (refine later_intro ⟨keeps_nil, ?_⟩) | (refine later_intro ⟨keeps_refl, ?_⟩) | (with_reducible refine keeps_go ?_ ?_; focus (first | (simp [keeps_cons, keeps_none, objs_app, objs_app0]; done) | (simp only [keeps_cons, keeps_none, objs_app0, objs_app, and_true]; first | rfl | exact ⟨rfl, rfl⟩ | exact ⟨rfl, rfl, rfl⟩))) | (with_reducible refine (And.intro (a := keeps _ _ _) ?_ ?_); focus (first | (simp [keeps_cons, keeps_none, objs_app, objs_app0]; done) | (simp only [keeps_cons, keeps_none, objs_app0, objs_app, and_true]; first | rfl | exact ⟨rfl, rfl⟩ | exact ⟨rfl, rfl, rfl⟩))) | (refine both_ways ?_ ?_) | (rw [wrap_i64 (by omega) (by omega)]) | (refine guardV_split (fun h => ?_) (fun h => ?_) <;> (try rw [h]) <;> (try simp at h) <;> (try (exfalso; omega))) | (with_reducible refine awp_drawT (id := 2) (.op 0 2 (.op 1 2 (.op 2 2 (.op 3 2 (.op 4 2 (.op 5 1 (.op 6 2 .nil))))))) (by kernel_rfl) ?_) | (refine lookupK (a := a) Tryz.underlying125 (fun _ => con_ok) (fun _ _ => eq_con) o2 ?_))
    exact hK
  · refine entryK (a := a) Tryz.underlying125 (fun _ => con_ok) (fun _ _ => eq_con) (omA _) fun j x hj hx => ?_
    generalize hs1 : (σ.app [.cells (conF a)]).set mi _ = s1
    have o1 : s1.objs[mi]? = some (.map ((insK a L ck).map (entV conF)) (ckK a L ck)) := by subst hs1; exact objs_setS' (Nat.lt_of_lt_of_le hlm (by simp [AST.app]))
    have c1 : s1.objs[c]? = some (.cells (.agg [.mp (some mi)])) := by subst hs1; rw [objs_setN' (Ne.symm hcm)]; exact ocA _
    have b1 : s1.objs[σ.objs.length]? = some (.cells (conF a)) := by subst hs1; rw [objs_setN' (by omega)]; exact objs_app0
    have cc1 := cellAt_known c1
    have cb1 := cellAt_known b1
    have hwr : IntKind.i64.wrap (cntK a L + 1) = cntK a L + 1 := wrap_i64 (by omega) (by omega)
    have hci : cntK a (insK a L ck) = cntK a L := cnt_ins
    have hs2 : s1.set mi (.map ((setK a (cntK a L + 1) (insK a L ck)).map (entV conF)) (ckK a L ck)) = (σ.set mi (.map ((setK a (cntK a L + 1) (insK a L ck)).map (entV conF)) (ckK a L ck))).app [.cells (conF a)] := by
      subst hs1; rw [set_set', set_app' hlm]
    repeat' (first | (simp -dsimp only [↓reduceIte, go_sem, cc1, cb1, hwr, hci]) | (refine arr_intro fun _ => ?_) | (refine later_intro ⟨keeps_nil, ?_⟩) | (refine later_intro ⟨keeps_refl, ?_⟩) | (with_reducible refine keeps_go ?_ ?_; focus (first | (simp [keeps_cons, keeps_none, objs_app, objs_app0]; done) | (simp only [keeps_cons, keeps_none, objs_app0, objs_app, and_true]; first | rfl | exact ⟨rfl, rfl⟩ | exact ⟨rfl, rfl, rfl⟩))) | (with_reducible refine (And.intro (a := keeps _ _ _) ?_ ?_); focus (first | (simp [keeps_cons, keeps_none, objs_app, objs_app0]; done) | (simp only [keeps_cons, keeps_none, objs_app0, objs_app, and_true]; first | rfl | exact ⟨rfl, rfl⟩ | exact ⟨rfl, rfl, rfl⟩))) | (refine both_ways ?_ ?_) | (rw [wrap_i64 (by omega) (by omega)]) | (refine guardV_split (fun h => ?_) (fun h => ?_) <;> (try rw [h]) <;> (try simp at h) <;> (try (exfalso; omega))) | (refine lookupK (a := a) Tryz.underlying125 (fun _ => con_ok) (fun _ _ => eq_con) o1 ?_) | (refine storeK (a := a) o1 hj hx ?_))
    generalize hs3 : s1.set mi (.map ((setK a (cntK a L + 1) (insK a L ck)).map (entV conF)) (ckK a L ck)) = s2 at hs2 ⊢
    rw [← hs2] at hK
    have hl1 : mi < s1.objs.length := (List.getElem?_eq_some_iff.1 o1).1
    have o2 : s2.objs[mi]? = some (.map ((setK a (cntK a L + 1) (insK a L ck)).map (entV conF)) (ckK a L ck)) := by subst hs3; exact objs_setS' hl1
    have c2 : s2.objs[c]? = some (.cells (.agg [.mp (some mi)])) := by subst hs3; rw [objs_setN' (Ne.symm hcm)]; exact c1
    have b2 : s2.objs[σ.objs.length]? = some (.cells (conF a)) := by subst hs3; rw [objs_setN' (by omega)]; exact b1
    have cc2 := cellAt_known c2
    have cb2 := cellAt_known b2
    have hfin : cntK a (setK a (cntK a L + 1) (insK a L ck)) = cntK a L + 1 := by rw [cnt_set hj, if_pos rfl]
    repeat' (first | (simp -dsimp only [↓reduceIte, go_sem, cc2, cb2, hfin]) | (refine arr_intro fun _ => ?_) | (refine later_intro ⟨keeps_nil, ?_⟩) | (refine later_intro ⟨keeps_refl, ?_⟩) | (with_reducible refine keeps_go ?_ ?_; focus (first | (simp [keeps_cons, keeps_none, objs_app, objs_app0]; done) | (simp only [keeps_cons, keeps_none, objs_app0, objs_app, and_true]; first | rfl | exact ⟨rfl, rfl⟩ | exact ⟨rfl, rfl, rfl⟩))) | (with_reducible refine (And.intro (a := keeps _ _ _) ?_ ?_); focus (first | (simp [keeps_cons, keeps_none, objs_app, objs_app0]; done) | (simp only [keeps_cons, keeps_none, objs_app0, objs_app, and_true]; first | rfl | exact ⟨rfl, rfl⟩ | exact ⟨rfl, rfl, rfl⟩))) | (refine both_ways ?_ ?_) | (rw [wrap_i64 (by omega) (by omega)]) | (refine guardV_split (fun h => ?_) (fun h => ?_) <;> (try rw [h]) <;> (try simp at h) <;> (try (exfalso; omega))) | (with_reducible refine awp_drawT (id := 2) (.op 0 2 (.op 1 2 (.op 2 2 (.op 3 2 (.op 4 2 (.op 5 1 (.op 6 2 .nil))))))) (by kernel_rfl) ?_) | (refine lookupK (a := a) Tryz.underlying125 (fun _ => con_ok) (fun _ _ => eq_con) o2 ?_))
    exact hK
theorem newCon_c {σ : AST} {K : AV → AST → Prop} (hK : K (.ptr (some (σ.objs.length + 1, []))) (σ.app [.map [] 0, .cells (.agg [.mp (some σ.objs.length)])])) : TCalls Tryz.prog 36 [] σ K := by
  refine tcalls_walk Tryz.f36 _ [.tmp 0] Tryz.func36 rfl rfl rfl mixed (Nat.le_of_ble_eq_true rfl) rfl fun hlen => ?_
  repeat' (first | (simp -dsimp only [↓reduceIte, go_sem]) | (refine arr_intro fun _ => ?_) | (rw [wrap_i64 (by omega) (by omega)]) | (refine guardV_split (fun h => ?_) (fun h => ?_) <;> (try rw [h]) <;> (try simp at h) <;> (try (exfalso; omega))))
  exact hK
theorem newKey_c {σ : AST} {K : AV → AST → Prop} (hK : K (.ptr (some (σ.objs.length + 1, []))) (σ.app [.map [] 0, .cells (.agg [.mp (some σ.objs.length)])])) : TCalls Tryz.prog 37 [] σ K := by
  refine tcalls_walk Tryz.f37 _ [.tmp 0] Tryz.func37 rfl rfl rfl mixed (Nat.le_of_ble_eq_true rfl) rfl fun hlen => ?_
  repeat' (first | (simp -dsimp only [↓reduceIte, go_sem]) | (refine arr_intro fun _ => ?_) | (rw [wrap_i64 (by omega) (by omega)]) | (refine guardV_split (fun h => ?_) (fun h => ?_) <;> (try rw [h]) <;> (try simp at h) <;> (try (exfalso; omega))))
  exact hK
theorem forget_c {σ : AST} {c mi ck : Nat} {es : List (Nat × AV × AV)} {K : AV → AST → Prop} (oc : σ.objs[c]? = some (.cells (.agg [.mp (some mi)]))) (om : σ.objs[mi]? = some (.map es ck)) (hK : K (.tuple []) (σ.set mi (.map [] ck))) : TCalls Tryz.prog 42 [.ptr (some (c, []))] σ K := by
  have cc := cellAt_known oc
  refine tcalls_walk Tryz.f42 _ [] Tryz.func42 rfl rfl rfl mixed (Nat.le_of_ble_eq_true rfl) rfl fun hlen => ?_
  repeat' (first | (simp -dsimp only [↓reduceIte, go_sem, cc, om, oc]) | (refine arr_intro fun _ => ?_) | (rw [wrap_i64 (by omega) (by omega)]) | (refine guardV_split (fun h => ?_) (fun h => ?_) <;> (try rw [h]) <;> (try simp at h) <;> (try (exfalso; omega))))
  refine ⟨⟨_, _, rfl, Tryz.underlying125⟩, ?_⟩
  simp only [om]
  repeat' (first | (simp -dsimp only [↓reduceIte, go_sem]) | (refine arr_intro fun _ => ?_) | (rw [wrap_i64 (by omega) (by omega)]) | (refine guardV_split (fun h => ?_) (fun h => ?_) <;> (try rw [h]) <;> (try simp at h) <;> (try (exfalso; omega))))
  exact hK
end Go.Aff.L10

/- Layer 32, walked: whose number a message is of; commits. -/
-- cuts
namespace Go.Aff.L10
open Go.Proofs Go.Aff Go.Aff.L01 Classical
set_option linter.unusedVariables false
set_option linter.unusedSimpArgs false
set_option maxRecDepth 20000
attribute [local go_sem] push_app app_app length_app cellAt_app cellAt_app0 set_app set_app0 objs_app objs_app0 List.cons_append List.nil_append List.length_cons List.length_nil List.getElem?_cons_zero List.getElem?_cons_succ List.set_cons_zero List.set_cons_succ List.length_map
attribute [-go_sem] cellAt_new
attribute [-simp] List.length_flatMap
attribute [local go_sem] Tryz.underlying3 Tryz.underlying4 Tryz.underlying5 Tryz.underlying9 Tryz.underlying39 Tryz.underlying40 Tryz.underlying43 Tryz.underlying25 Tryz.underlying50 Tryz.underlying76 subPs_0 subAt_0 subSet_0 subPs_1 subAt_1 subSet_1 subPs_2 subAt_2 subSet_2 subPs_3 subAt_3 subSet_3 subPs_4 subAt_4 subSet_4 subPs_5 subAt_5 subSet_5 sizes_sub shapes_sub fits_sub zero_sub zt_sub built_sub Tryz.underlying42 pendPs_0 pendAt_0 pendSet_0 pendPs_1 pendAt_1 pendSet_1 pendPs_2 pendAt_2 pendSet_2 pendPs_3 pendAt_3 pendSet_3 pendPs_4 pendAt_4 pendSet_4 pendPs_5 pendAt_5 pendSet_5 sizes_pend shapes_pend fits_pend zero_pend zt_pend built_pend Tryz.underlying104 repPs_0 repAt_0 repSet_0 repPs_1 repAt_1 repSet_1 repPs_2 repAt_2 repSet_2 repPs_3 repAt_3 repSet_3 repPs_4 repAt_4 repSet_4 repPs_5 repAt_5 repSet_5 repPs_6 repAt_6 repSet_6 repPs_7 repAt_7 repSet_7 repPs_8 repAt_8 repSet_8 repPs_9 repAt_9 repSet_9 sizes_rep shapes_rep fits_rep zero_rep zt_rep built_rep Tryz.underlying45 blobPs_0 blobAt_0 blobSet_0 blobPs_1 blobAt_1 blobSet_1 blobPs_2 blobAt_2 blobSet_2 blobPs_3 blobAt_3 blobSet_3 sizes_blob shapes_blob fits_blob zero_blob zt_blob built_blob Tryz.underlying47 msgPs_0 msgAt_0 msgSet_0 msgPs_1 msgAt_1 msgSet_1 msgPs_2 msgAt_2 msgSet_2 msgPs_3 msgAt_3 msgSet_3 msgPs_4 msgAt_4 msgSet_4 msgPs_5 msgAt_5 msgSet_5 msgPs_6 msgAt_6 msgSet_6 msgPs_7 msgAt_7 msgSet_7 msgPs_8 msgAt_8 msgSet_8 msgPs_9 msgAt_9 msgSet_9 sizes_msg shapes_msg fits_msg zero_msg zt_msg built_msg Tryz.underlying49 at_Ps_0 at_Set_0 at_Ps_1 at_Set_1 sizes_at_ shapes_at_
attribute [local go_sem] fits3 fits4 fits5 fits9 fits23 fits26 fits31 fits34 fits52 zt3 zero3 zt34 zero34 zt23 zero23 bin_sub_eql bin_pend_eql bin_pend_neq bin_blob_eql bin_dig23_eql bin_dig23_neq slice23
attribute [local go_sem ↓] blockQ_exit2
attribute [local simp] dig_ext
attribute [local go_sem] postPs_0 postAt_0 postSet_0 postPs_1 postAt_1 postSet_1 postPs_2 postAt_2 postSet_2 sizes_post shapes_post fits_post zero_post zt_post built_post Tryz.underlying38 keyPs_0 keyAt_0 keySet_0 keyPs_1 keyAt_1 keySet_1 keyPs_2 keyAt_2 keySet_2 sizes_key shapes_key fits_key zero_key zt_key built_key Tryz.underlying87 conPs_0 conAt_0 conSet_0 conPs_1 conAt_1 conSet_1 sizes_con shapes_con fits_con zero_con zt_con built_con Tryz.underlying89 Tryz.underlying22 Tryz.underlying28 Tryz.underlying29 Tryz.underlying31 Tryz.underlying24 Tryz.underlying25 Tryz.underlying125 Tryz.underlying127 Tryz.underlying128 Tryz.underlying130
def named (m : Msg) : Key × Bool := if m.kind = 1 then (⟨m.kind, m.client, m.sub.num⟩, true) else if m.kind = 4 then (⟨m.kind, m.blob.owner, m.blob.num⟩, true) else (key0, false)
theorem named_c {m : Msg} {t u : Tk} {σ : AST} {K : AV → AST → Prop} (hK : K (.tuple [keyV (named m).1, .bool (named m).2]) σ) : TCalls Tryz.prog 40 [msgV t u m] σ K := by
  refine TCalls.drop ?_
  have hfin : ∀ s' x v, Ext σ s' → named m = (x, v) → Ext σ s' ∧ (AV.tuple [keyV x, .bool v]).noRef = true ∧ K (AV.tuple [keyV x, .bool v]).strip σ := fun s' x v hx he => by
    refine ⟨hx, by simp [AV.noRef, AV.noRefs, keyPs], ?_⟩
    simp only [AV.strip, AV.strips, strip_key]
    rw [he] at hK; exact hK
  refine tcalls_walk Tryz.f40 _ [.cell 2 87, .tmp 3] Tryz.func40 rfl rfl rfl mixed (Nat.le_of_ble_eq_true rfl) rfl fun hlen => ?_
  by_cases h1 : m.kind = 1
  · have hn : named m = (⟨m.kind, m.client, m.sub.num⟩, true) := by unfold named; rw [if_pos h1]
    repeat' (first | (simp -dsimp only [↓reduceIte, go_sem, h1]) | (refine arr_intro fun _ => ?_) | (rw [wrap_i64 (by omega) (by omega)]) | (refine guardV_split (fun h => ?_) (fun h => ?_) <;> (try rw [h]) <;> (try simp at h) <;> (try (exfalso; omega))))
    rw [h1] at hn
    exact hfin _ _ _ (Ext.app _ _) hn
  · by_cases h4 : m.kind = 4
    · have hn : named m = (⟨m.kind, m.blob.owner, m.blob.num⟩, true) := by unfold named; rw [if_neg h1, if_pos h4]
      repeat' (first | (simp -dsimp only [↓reduceIte, go_sem, h1, h4]) | (refine arr_intro fun _ => ?_) | (rw [wrap_i64 (by omega) (by omega)]) | (refine guardV_split (fun h => ?_) (fun h => ?_) <;> (try rw [h]) <;> (try simp at h) <;> (try (exfalso; omega))))
      rw [h4] at hn
      exact hfin _ _ _ (Ext.app _ _) hn
    · have hn : named m = (key0, false) := by unfold named; rw [if_neg h1, if_neg h4]
      repeat' (first | (simp -dsimp only [↓reduceIte, go_sem, h1, h4]) | (refine arr_intro fun _ => ?_) | (rw [wrap_i64 (by omega) (by omega)]) | (refine guardV_split (fun h => ?_) (fun h => ?_) <;> (try rw [h]) <;> (try simp at h) <;> (try (exfalso; omega))))
      exact hfin _ _ _ (Ext.app _ _) hn
def comM32 (m : Msg) : Prop := m.kind = 3 ∨ m.kind = 10
theorem commit_c {m : Msg} {t u : Tk} {σ : AST} {K : AV → AST → Prop} (hK : K (.bool (decide (comM32 m))) σ) : TCalls Tryz.prog 45 [msgV t u m] σ K := by
  refine TCalls.drop ?_
  have hfin : ∀ s' b, Ext σ s' → decide (comM32 m) = b → Ext σ s' ∧ (AV.bool b).noRef = true ∧ K (AV.bool b).strip σ := fun s' b hx he => ⟨hx, rfl, by rw [he] at hK; simpa [AV.strip] using hK⟩
  refine tcalls_walk Tryz.f45 _ [.tmp 2] Tryz.func45 rfl rfl rfl mixed (Nat.le_of_ble_eq_true rfl) rfl fun hlen => ?_
  by_cases h1 : m.kind = 3
  · repeat' (first | (simp -dsimp only [↓reduceIte, go_sem, h1]) | (refine arr_intro fun _ => ?_) | (rw [wrap_i64 (by omega) (by omega)]) | (refine guardV_split (fun h => ?_) (fun h => ?_) <;> (try rw [h]) <;> (try simp at h) <;> (try (exfalso; omega))))
    exact hfin _ _ (Ext.app _ _) (by simp [comM32, h1])
  · by_cases h2 : m.kind = 10
    · repeat' (first | (simp -dsimp only [↓reduceIte, go_sem, h1, h2]) | (refine arr_intro fun _ => ?_) | (rw [wrap_i64 (by omega) (by omega)]) | (refine guardV_split (fun h => ?_) (fun h => ?_) <;> (try rw [h]) <;> (try simp at h) <;> (try (exfalso; omega))))
      exact hfin _ _ (Ext.app _ _) (by simp [comM32, h2])
    · repeat' (first | (simp -dsimp only [↓reduceIte, go_sem, h1, h2]) | (refine arr_intro fun _ => ?_) | (rw [wrap_i64 (by omega) (by omega)]) | (refine guardV_split (fun h => ?_) (fun h => ?_) <;> (try rw [h]) <;> (try simp at h) <;> (try (exfalso; omega))))
      exact hfin _ _ (Ext.app _ _) (by simp [comM32, h1, h2])
end Go.Aff.L10

