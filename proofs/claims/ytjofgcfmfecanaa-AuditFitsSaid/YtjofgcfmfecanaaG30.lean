import Derived.Test.YtjofgcfmfecanaaG1
import Derived.Test.YtjofgcfmfecanaaG28
import Derived.Test.YtjofgcfmfecanaaG20
import Derived.Test.YtjofgcfmfecanaaProg

set_option linter.unusedSimpArgs false
set_option linter.unusedVariables false

/- Layer 32, plainly: numbers with two contents. -/
namespace Go.Aff.L32
open Classical
set_option linter.unusedVariables false
variable {α β : Type}
/-- A thing ahead of all others that differ at it alone. -/
theorem countP_step {p q : α → Bool} {k : α} : ∀ {U : List α}, U.Nodup → k ∈ U → p k = false → q k = true → (∀ x, x ≠ k → q x = p x) → U.countP q = U.countP p + 1
  | [], _, h, _, _, _ => by simp at h
  | x :: U, hU, hk, hp, hq, he => by
    obtain ⟨hx, hU⟩ := List.nodup_cons.1 hU
    by_cases e : x = k
    · subst e
      have : U.countP q = U.countP p := List.countP_congr fun y hy => by rw [he y (fun e => hx (e ▸ hy))]
      simp [hp, hq, this]
    · have hk' : k ∈ U := (List.mem_cons.1 hk).resolve_left (fun h => e h.symm)
      have := countP_step hU hk' hp hq he
      simp only [List.countP_cons, he x e, this]; omega
theorem nodup_over : ∀ l : List α, ∃ U : List α, U.Nodup ∧ ∀ x ∈ l, x ∈ U
  | [] => ⟨[], List.nodup_nil, fun x h => h⟩
  | y :: l => by
    obtain ⟨U, hU, h⟩ := nodup_over l
    by_cases e : y ∈ U
    · exact ⟨U, hU, fun x hx => (List.mem_cons.1 hx).elim (fun e' => e' ▸ e) (h x)⟩
    · exact ⟨y :: U, List.nodup_cons.2 ⟨e, hU⟩, fun x hx => (List.mem_cons.1 hx).elim (fun e' => e' ▸ List.mem_cons_self ..) fun h' => List.mem_cons_of_mem _ (h x h')⟩
theorem countP_sub {p : α → Bool} : ∀ {l m : List α}, l.Nodup → (∀ x ∈ l, x ∈ m) → l.countP p ≤ m.countP p
  | [], m, _, _ => by simp
  | x :: l, m, hl, h => by
    obtain ⟨hx, hl⟩ := List.nodup_cons.1 hl
    have hm := List.perm_cons_erase (h x (List.mem_cons_self ..))
    have := countP_sub (p := p) (m := m.erase x) hl fun y hy => (List.mem_erase_of_ne (fun e : y = x => hx (by rw [← e]; exact hy))).2 (h y (List.mem_cons_of_mem _ hy))
    rw [hm.countP_eq p]
    simp only [List.countP_cons]; omega
/-- What came, each once. -/
noncomputable def D (l : List α) : List α := l.foldl (fun d x => if x ∈ d then d else d ++ [x]) []
theorem D_snoc {l : List α} {x : α} : D (l ++ [x]) = if x ∈ D l then D l else D l ++ [x] := by
  unfold D; rw [List.foldl_append]; rfl
theorem snoc_ind {P : List α → Prop} (h0 : P []) (h1 : ∀ l x, P l → P (l ++ [x])) (l : List α) : P l := by
  have : ∀ n (l : List α), l.length = n → P l := by
    intro n
    induction n with
    | zero => intro l hl; rw [List.length_eq_zero_iff.1 hl]; exact h0
    | succ n ih =>
      intro l hl
      have hne : l ≠ [] := by intro e; subst e; simp at hl
      rw [← List.dropLast_concat_getLast hne]
      exact h1 _ _ (ih _ (by simp [hl]))
  exact this _ l rfl
theorem D_mem {l : List α} {y : α} : y ∈ D l ↔ y ∈ l := by
  refine snoc_ind (P := fun l => y ∈ D l ↔ y ∈ l) (by simp [D]) (fun l x ih => ?_) l
  rw [D_snoc, List.mem_append, ← ih, List.mem_singleton]
  split
  · rename_i h; exact ⟨.inl, fun h' => h'.elim id fun e => e ▸ h⟩
  · rw [List.mem_append, List.mem_singleton]
theorem D_nodup {l : List α} : (D l).Nodup := by
  refine snoc_ind (P := fun l => (D l).Nodup) (by simp [D]) (fun l x ih => ?_) l
  rw [D_snoc]
  split
  · exact ih
  · rename_i h
    rw [List.nodup_append]
    exact ⟨ih, by simp, fun a ha b hb => by simp at hb; subst hb; exact fun e => h (e ▸ ha)⟩
/-- How many contents a key has. -/
noncomputable def many (l : List (α × β)) (k : α) : Nat := (D l).countP fun x => decide (x.1 = k)
/-- How many keys have two contents. -/
noncomputable def two (l : List (α × β)) : Nat := l.length.rec 0 fun i n => match l[i]? with
  | none => n
  | some x => if x ∈ l.take i then n else if many (l.take i) x.1 + 1 = 2 then n + 1 else n
noncomputable def twoL (l : List (α × β)) (i : Nat) : Nat := Nat.rec 0 (fun i n => match l[i]? with
  | none => n
  | some x => if x ∈ l.take i then n else if many (l.take i) x.1 + 1 = 2 then n + 1 else n) i
theorem twoL_next {l : List (α × β)} {i : Nat} {x : α × β} (h : l[i]? = some x) : twoL l (i + 1) = if x ∈ l.take i then twoL l i else if many (l.take i) x.1 + 1 = 2 then twoL l i + 1 else twoL l i := by
  show (match l[i]? with
    | none => twoL l i
    | some x => if x ∈ l.take i then twoL l i else if many (l.take i) x.1 + 1 = 2 then twoL l i + 1 else twoL l i) = _
  rw [h]
theorem many_snoc {l : List (α × β)} {x : α × β} {k : α} : many (l ++ [x]) k = if x ∈ l then many l k else many l k + if x.1 = k then 1 else 0 := by
  unfold many
  rw [D_snoc]
  by_cases h : x ∈ l
  · rw [if_pos (D_mem.2 h), if_pos h]
  · rw [if_neg (fun h' => h (D_mem.1 h')), if_neg h, List.countP_append]
    simp [List.countP_cons]
/-- The keys with two contents, among any that hold all keys. -/
theorem twoL_eq {l : List (α × β)} {U : List α} (hU : U.Nodup) (h : ∀ x ∈ l, x.1 ∈ U) : ∀ i ≤ l.length, twoL l i = U.countP fun k => decide (2 ≤ many (l.take i) k)
  | 0, _ => by
    have : (U.countP fun k => decide (2 ≤ many (l.take 0) k)) = 0 := List.countP_eq_zero.2 fun k _ => by simp [many, D]
    rw [this]; rfl
  | i + 1, hi => by
    have ih := twoL_eq hU h i (by omega)
    obtain ⟨x, hx⟩ : ∃ x, l[i]? = some x := ⟨l[i], List.getElem?_eq_getElem (by omega)⟩
    have hm : l.take (i + 1) = l.take i ++ [x] := by rw [List.take_add_one, hx]; rfl
    rw [twoL_next hx, hm]
    by_cases e : x ∈ l.take i
    · rw [if_pos e, ih]
      refine List.countP_congr fun k _ => ?_
      rw [many_snoc, if_pos e]
    · rw [if_neg e]
      have hms : ∀ k, many (l.take i ++ [x]) k = many (l.take i) k + if x.1 = k then 1 else 0 := fun k => by rw [many_snoc, if_neg e]
      by_cases e2 : many (l.take i) x.1 + 1 = 2
      · rw [if_pos e2, ih]
        symm
        refine countP_step (k := x.1) hU (h x (List.mem_of_getElem? hx)) ?_ ?_ fun y hy => ?_
        · simp; omega
        · rw [hms, if_pos rfl]; simp; omega
        · rw [hms, if_neg (fun e => hy e.symm)]; rfl
      · rw [if_neg e2, ih]
        refine List.countP_congr fun k _ => ?_
        rw [hms]
        by_cases ek : x.1 = k
        · subst ek; rw [if_pos rfl]; simp; omega
        · rw [if_neg ek]; rfl
noncomputable def twos (l : List (α × β)) : Nat := twoL l l.length
theorem many_mono {l m : List (α × β)} (h : ∀ x ∈ l, x ∈ m) (k : α) : many l k ≤ many m k := countP_sub D_nodup fun x hx => D_mem.2 (h x (D_mem.1 hx))
theorem twos_mono {l m : List (α × β)} (h : ∀ x ∈ l, x ∈ m) : twos l ≤ twos m := by
  obtain ⟨U, hU, hm⟩ := nodup_over (m.map (·.1))
  have h1 : ∀ x ∈ m, x.1 ∈ U := fun x hx => hm _ (List.mem_map_of_mem hx)
  unfold twos
  rw [twoL_eq hU (fun x hx => h1 x (h x hx)) _ (Nat.le_refl _), twoL_eq hU h1 _ (Nat.le_refl _), List.take_length, List.take_length]
  refine List.countP_mono_left fun k _ hk => ?_
  have := many_mono h k
  simp at hk ⊢; omega
theorem twos_same {l m : List (α × β)} (h : ∀ x, x ∈ l ↔ x ∈ m) : twos l = twos m := Nat.le_antisymm (twos_mono fun x hx => (h x).1 hx) (twos_mono fun x hx => (h x).2 hx)
end Go.Aff.L32

/- Layer 32, plainly: two contents, more of it. -/
namespace Go.Aff.L32
open Classical
set_option linter.unusedVariables false
variable {α β : Type}
theorem twoL_app {l m : List (α × β)} : ∀ {i : Nat}, i ≤ l.length → twoL (l ++ m) i = twoL l i
  | 0, _ => rfl
  | i + 1, h => by
    have hx : l[i]? = some l[i] := List.getElem?_eq_getElem (by omega)
    have hx' : (l ++ m)[i]? = some l[i] := by rw [List.getElem?_append_left (by omega)]; exact hx
    rw [twoL_next hx, twoL_next hx', twoL_app (by omega), List.take_append_of_le_length (by omega)]
theorem twos_snoc {l : List (α × β)} {x : α × β} : twos (l ++ [x]) = if x ∈ l then twos l else if many l x.1 + 1 = 2 then twos l + 1 else twos l := by
  have hx : (l ++ [x])[l.length]? = some x := by simp
  have h := twoL_next hx
  rw [twoL_app (Nat.le_refl _), List.take_left'] at h
  · simpa [twos] using h
  · rfl
theorem twos_nil : twos ([] : List (α × β)) = 0 := rfl
theorem many_nil {k : α} : many ([] : List (α × β)) k = 0 := by simp [many, D]
end Go.Aff.L32

/- Walking: maps, makes. -/
namespace Go.Aff
set_option linter.unusedVariables false

variable {P : Program} {σ : AST} {ρ : Operand → AV} {K : AV → AST → Prop} {dst : Option Tmp} {ty : TypeId} {pos : String} {after : Array Edge} {gd : Option (Nat × Bool)}
theorem op_lookup {t : TypeId} {x k : Operand} {ok : Bool} : opW P ρ ⟨dst, .lookup t x k ok, ty, pos, after, gd⟩ σ K = lookupW P σ t (ρ x) (ρ k) ok (At K σ) := nr rfl
theorem op_mapUpdate {t : TypeId} {m k v : Operand} : opW P ρ ⟨dst, .mapUpdate t m k v, ty, pos, after, gd⟩ σ K = mapUpdateW P σ t (ρ m) (ρ k) (ρ v) (AtS K .undef) := nr rfl
theorem op_mapEntry {t : TypeId} {m k : Operand} : opW P ρ ⟨dst, .mapEntry t m k, ty, pos, after, gd⟩ σ K = mapEntryW P σ t (ρ m) (ρ k) K := nr rfl
theorem op_entryStore {t : TypeId} {m st v : Operand} : opW P ρ ⟨dst, .entryStore t m st v, ty, pos, after, gd⟩ σ K = entryStoreW σ (ρ m) (ρ st) (ρ v) (AtS K .undef) := nr rfl
theorem op_makeMap {t : TypeId} : opW P ρ ⟨dst, .makeMap t none, ty, pos, after, gd⟩ σ K = K (.mp (some σ.objs.length)) (σ.push (.map [] 0)) := nr rfl
theorem op_makeSlice {t : TypeId} {n c : Operand} : opW P ρ ⟨dst, .makeSlice t n c, ty, pos, after, gd⟩ σ K = makeSliceW P t (ρ n) (ρ c) σ K := nr rfl
theorem op_delete {s x : Operand} {ts : Array TypeId} : opW P ρ ⟨dst, .call ⟨.builtin .delete, #[s, x], ts⟩, ty, pos, after, gd⟩ σ K = deleteW P ts (ρ s) (ρ x) σ (AtS K (.tuple [])) := nr rfl
theorem op_clear {s : Operand} {ts : Array TypeId} : opW P ρ ⟨dst, .call ⟨.builtin .clear, #[s], ts⟩, ty, pos, after, gd⟩ σ K = clearW P ts (ρ s) σ (AtS K (.tuple [])) := nr rfl
theorem op_range {t : TypeId} {x : Operand} : opW P ρ ⟨dst, .range t x, ty, pos, after, gd⟩ σ K = rangeW P σ t (ρ x) K := nr rfl
theorem op_next {x : Operand} {s : Bool} : opW P ρ ⟨dst, .next x s, ty, pos, after, gd⟩ σ K = nextW σ (ρ x) s K := nr rfl
theorem op_entry {x : Operand} : opW P ρ ⟨dst, .entry x, ty, pos, after, gd⟩ σ K = entryW σ (ρ x) (At K σ) := nr rfl
attribute [go_sem ↓] op_range op_next op_entry op_lookup op_mapUpdate op_mapEntry op_entryStore op_makeMap op_makeSlice op_delete op_clear
end Go.Aff

/- Layer 9, plainly: how many, where, up to where; beginnings. -/
namespace Go.Aff.L09
set_option linter.unusedVariables false
set_option linter.unusedSimpArgs false

def isC (c : Int) (b : UInt8) : Bool := decide ((b.toNat : Int) = c)
def cnt (c : Int) (h : List UInt8) : Nat := h.countP (isC c)
/-- The place of a client's operation: from place i on, k of it before. -/
def placeL (c n : Int) : List UInt8 → Nat → Nat → Int
  | [], _, _ => -1
  | b :: r, i, k => if isC c b = true then (if ((k + 1 : Nat) : Int) = n then (i : Int) else placeL c n r (i + 1) (k + 1)) else placeL c n r (i + 1) k
def place (h : List UInt8) (c n : Int) : Int := placeL c n h 0 0
/-- Up to a client's last operation. -/
def uptoL (c : Int) (h : List UInt8) : Nat → List UInt8
  | 0 => []
  | i + 1 => match h[i]? with
    | some b => if isC c b = true then h.take (i + 1) else uptoL c h i
    | none => uptoL c h i
def upto (h : List UInt8) (c : Int) : List UInt8 := uptoL c h h.length
def right (h : List UInt8) (n : Int) : Bool := h.all (fun b => decide ((b.toNat : Int) < n)) && decide (h.length ≤ 512 ∧ 1 ≤ n ∧ n ≤ 256)
def fit (a b : List UInt8) : Bool := decide (b <+: a ∨ a <+: b)
def longer (a b : List UInt8) : List UInt8 := if a <+: b then b else a

theorem cnt_le {c : Int} {h : List UInt8} : cnt c h ≤ h.length := List.countP_le_length
theorem cnt_nil {c : Int} : cnt c [] = 0 := rfl
theorem cnt_append {c : Int} {a b : List UInt8} : cnt c (a ++ b) = cnt c a + cnt c b := List.countP_append
theorem cnt_take {c : Int} {h : List UInt8} {i : Nat} {b : UInt8} (hb : h[i]? = some b) : cnt c (h.take (i + 1)) = cnt c (h.take i) + if isC c b = true then 1 else 0 := by
  rw [List.take_add_one, hb, cnt_append]
  simp only [Option.toList_some, cnt, List.countP_cons, List.countP_nil, Nat.zero_add]
theorem cnt_take_le {c : Int} {h : List UInt8} {i : Nat} : cnt c (h.take i) ≤ i := by
  have := cnt_le (c := c) (h := h.take i); simp at this; omega
theorem isC_self {b : UInt8} : isC (b.toNat : Int) b = true := by simp [isC]
theorem isC_other {a b : UInt8} (h : a ≠ b) : isC (a.toNat : Int) b = false := by
  simp only [isC, decide_eq_false_iff_not]
  intro e
  apply h
  have : b.toNat = a.toNat := by omega
  exact (UInt8.toNat_inj.1 this).symm
theorem placeL_step {c n : Int} {h : List UInt8} {i : Nat} {b : UInt8} (hb : h[i]? = some b) :
    placeL c n (h.drop i) i (cnt c (h.take i)) = if isC c b = true ∧ ((cnt c (h.take (i + 1)) : Nat) : Int) = n then (i : Int) else placeL c n (h.drop (i + 1)) (i + 1) (cnt c (h.take (i + 1))) := by
  rw [cnt_take hb]
  have hlt := (List.getElem?_eq_some_iff.1 hb).1
  have hd : h.drop i = b :: h.drop (i + 1) := by
    rw [List.drop_eq_getElem_cons hlt]; congr 1; exact (List.getElem?_eq_some_iff.1 hb).2
  rw [hd]
  simp only [placeL]
  cases hc : isC c b with
  | true => simp
  | false => simp
theorem placeL_end {c n : Int} {h : List UInt8} {k : Nat} : placeL c n (h.drop h.length) h.length k = -1 := by simp [placeL]
theorem placeL_range {c n : Int} : ∀ {r : List UInt8} {i k : Nat}, placeL c n r i k = -1 ∨ ((i : Int) ≤ placeL c n r i k ∧ placeL c n r i k < i + r.length)
  | [], i, k => .inl rfl
  | b :: r, i, k => by
    simp only [placeL]
    have h1 := placeL_range (c := c) (n := n) (r := r) (i := i + 1) (k := k + 1)
    have h2 := placeL_range (c := c) (n := n) (r := r) (i := i + 1) (k := k)
    split
    · split
      · right; simp; omega
      · rcases h1 with h | h
        · exact .inl h
        · right; simp only [List.length_cons]; omega
    · rcases h2 with h | h
      · exact .inl h
      · right; simp only [List.length_cons]; omega
end Go.Aff.L09

/- Layer 9, walked: the operations in order. -/
namespace Go.Aff.L09
open Go.Proofs Go.Aff
set_option linter.unusedVariables false
set_option linter.unusedSimpArgs false
theorem mixed : Try.prog.follows .mixedOrders = true := rfl
theorem agg3 : aggT Try.prog 3 = some false := by kernel_rfl
theorem cells3 : Try.prog.cellsOf 3 = 1 := by kernel_rfl
theorem agg5 : aggT Try.prog 5 = some false := by kernel_rfl
theorem cells5 : Try.prog.cellsOf 5 = 1 := by kernel_rfl
theorem agg9 : aggT Try.prog 9 = some false := by kernel_rfl
theorem cells9 : Try.prog.cellsOf 9 = 1 := by kernel_rfl
theorem fits3 {v : AV} : fits Try.prog 3 v = (v.isAgg = false ∧ v.size = 1) := fits_leaf agg3 cells3
theorem fits9 {v : AV} : fits Try.prog 9 v = (v.isAgg = false ∧ v.size = 1) := fits_leaf agg9 cells9
attribute [local go_sem] Try.underlying3 Try.underlying4 Try.underlying5 Try.underlying9 fits3 fits9

end Go.Aff.L09

/- Layer 9, walked: how many operations a client has; where one stands. -/
namespace Go.Aff.L09
open Go.Proofs Go.Aff
set_option linter.unusedVariables false
set_option linter.unusedSimpArgs false
attribute [local go_sem] Try.underlying3 Try.underlying4 Try.underlying5 Try.underlying9 fits3 fits9 push_app app_app length_app cellAt_app cellAt_app0 set_app set_app0 objs_app objs_app0 List.cons_append List.nil_append List.length_cons List.length_nil List.getElem?_cons_zero List.getElem?_cons_succ List.set_cons_zero List.set_cons_succ

attribute [-go_sem] cellAt_new

set_option maxRecDepth 200000 in
theorem zero3 : zeroA Try.prog 12 3 = .int .i64 0 := by kernel_rfl
set_option maxRecDepth 200000 in
theorem zeroOf3 : ZeroOf Try.prog 3 (.int .i64 0) := ⟨_, _, rfl, rfl, rfl, rfl, rfl⟩

end Go.Aff.L09

/- Layer 9, plainly: places, beginnings, orders. -/
namespace Go.Aff.L09
set_option linter.unusedVariables false
set_option linter.unusedSimpArgs false

theorem cnt_mono {c : Int} {h : List UInt8} {i j : Nat} (hij : i ≤ j) : cnt c (h.take i) ≤ cnt c (h.take j) := by
  have : h.take i = (h.take j).take i := by rw [List.take_take, Nat.min_eq_left hij]
  rw [this]
  exact List.Sublist.countP_le (List.take_sublist _ _)
theorem placeL_spec {c : Int} {h : List UInt8} {i : Nat} {b : UInt8} (hb : h[i]? = some b) (hc : isC c b = true) : ∀ (d j : Nat), d + j = i → placeL c ((cnt c (h.take (i + 1)) : Nat) : Int) (h.drop j) j (cnt c (h.take j)) = i
  | 0, j, hj => by
    obtain rfl : j = i := by omega
    rw [placeL_step hb, if_pos ⟨hc, rfl⟩]
  | d + 1, j, hj => by
    have hlt := (List.getElem?_eq_some_iff.1 hb).1
    have hjb : h[j]? = some h[j] := List.getElem?_eq_getElem (by omega)
    rw [placeL_step hjb, if_neg, placeL_spec hb hc d (j + 1) (by omega)]
    rintro ⟨_, he⟩
    have h1 := cnt_take (c := c) hb
    rw [if_pos hc] at h1
    have h2 := cnt_mono (c := c) (h := h) (i := j + 1) (j := i) (by omega)
    omega
theorem place_spec {c : Int} {h : List UInt8} {i : Nat} {b : UInt8} (hb : h[i]? = some b) (hc : isC c b = true) : place h c ((cnt c (h.take (i + 1)) : Nat) : Int) = i := by
  have := placeL_spec hb hc i 0 (by omega)
  simpa [place, cnt] using this
theorem place_range {c n : Int} {h : List UInt8} : place h c n = -1 ∨ (0 ≤ place h c n ∧ place h c n < h.length) := by
  have := placeL_range (c := c) (n := n) (r := h) (i := 0) (k := 0)
  unfold place; omega
theorem uptoL_some {c : Int} {h : List UInt8} : ∀ n, n ≤ h.length → cnt c (h.take n) = cnt c h → cnt c h ≠ 0 → uptoL c h n = h.take ((place h c (cnt c h)).toNat + 1) ∧ 0 ≤ place h c (cnt c h)
  | 0, _, h1, h2 => absurd h1.symm h2
  | n + 1, hn, h1, h2 => by
    have hb : h[n]? = some h[n] := List.getElem?_eq_getElem (by omega)
    have hct := cnt_take (c := c) hb
    simp only [uptoL, hb]
    split
    · rename_i hc
      have := place_spec hb hc
      rw [h1] at this
      rw [this]; simp
    · rename_i hc
      rw [if_neg hc] at hct
      exact uptoL_some n (by omega) (by omega) h2
theorem uptoL_none {c : Int} {h : List UInt8} (h0 : cnt c h = 0) : ∀ n, uptoL c h n = []
  | 0 => rfl
  | n + 1 => by
    simp only [uptoL]
    split
    · rename_i b hb
      rw [if_neg]
      · exact uptoL_none h0 n
      · have hm : b ∈ h := List.mem_iff_getElem?.2 ⟨n, hb⟩
        unfold cnt at h0
        rw [List.countP_eq_zero] at h0
        exact h0 b hm
    · exact uptoL_none h0 n
theorem upto_none {c : Int} {h : List UInt8} (h0 : cnt c h = 0) : upto h c = [] := uptoL_none h0 _
theorem upto_some {c : Int} {h : List UInt8} (h0 : cnt c h ≠ 0) : upto h c = h.take ((place h c (cnt c h)).toNat + 1) ∧ 0 ≤ place h c (cnt c h) := uptoL_some _ (Nat.le_refl _) (by rw [List.take_length]) h0

/-! ### Growing -/
theorem placeL_append {c n : Int} : ∀ {h more : List UInt8} {i k : Nat}, placeL c n h i k ≠ -1 → placeL c n (h ++ more) i k = placeL c n h i k
  | [], more, i, k, hh => absurd rfl hh
  | b :: r, more, i, k, hh => by
    simp only [List.cons_append, placeL] at hh ⊢
    split
    · rename_i hc
      rw [if_pos hc] at hh
      split
      · rfl
      · rename_i hn
        rw [if_neg hn] at hh
        exact placeL_append hh
    · rename_i hc
      rw [if_neg hc] at hh
      exact placeL_append hh
theorem placeL_found {c : Int} : ∀ {h : List UInt8} {i k n : Nat}, k < n → n ≤ k + cnt c h → placeL c (n : Nat) h i k ≠ -1
  | [], i, k, n, h1, h2 => by simp [cnt] at h2; omega
  | b :: r, i, k, n, h1, h2 => by
    have hcc : cnt c (b :: r) = cnt c r + if isC c b = true then 1 else 0 := by simp [cnt, List.countP_cons]
    simp only [placeL]
    split
    · rename_i hc
      rw [if_pos hc] at hcc
      split
      · omega
      · rename_i hn
        exact placeL_found (by omega) (by omega)
    · rename_i hc
      rw [if_neg hc] at hcc
      exact placeL_found h1 (by omega)
theorem place_append {c : Int} {h more : List UInt8} {n : Nat} (h1 : 1 ≤ n) (h2 : n ≤ cnt c h) : place (h ++ more) c n = place h c n :=
  placeL_append (placeL_found (by omega) (by omega))
theorem upto_prefix {c : Int} {h : List UInt8} : upto h c <+: h := by
  by_cases h0 : cnt c h = 0
  · rw [upto_none h0]; exact List.nil_prefix
  · rw [(upto_some h0).1]; exact List.take_prefix _ _
theorem cnt_upto {c : Int} {h : List UInt8} : cnt c (upto h c) = cnt c h := by
  have key : ∀ n, n ≤ h.length → cnt c (h.take n) = cnt c h → cnt c (uptoL c h n) = cnt c h := by
    intro n
    induction n with
    | zero => intro _ h1; simpa [uptoL] using h1
    | succ n ih =>
      intro hn h1
      have hb : h[n]? = some h[n] := List.getElem?_eq_getElem (by omega)
      have hct := cnt_take (c := c) hb
      simp only [uptoL, hb]
      split
      · exact h1
      · rename_i hc
        rw [if_neg hc] at hct
        exact ih (by omega) (by omega)
  exact key _ (Nat.le_refl _) (by rw [List.take_length])
theorem upto_append {c : Int} {h more : List UInt8} (h0 : cnt c more = 0) : upto (h ++ more) c = upto h c := by
  have hcc : cnt c (h ++ more) = cnt c h := by rw [cnt_append, h0]; rfl
  by_cases hz : cnt c h = 0
  · rw [upto_none hz, upto_none (by omega)]
  · obtain ⟨h1, h2⟩ := upto_some hz
    obtain ⟨h3, h4⟩ := upto_some (c := c) (h := h ++ more) (by omega)
    rw [h1, h3, hcc, place_append (by omega) (Nat.le_refl _)]
    have := place_range (c := c) (n := cnt c h) (h := h)
    rw [List.take_append_of_le_length (by omega)]

/-! ### Going on, fitting -/
def goes (long short : List UInt8) : Bool := decide (short <+: long)
theorem goes_refl {a : List UInt8} : goes a a = true := by simp [goes]
theorem goes_antisymm {a b : List UInt8} (h1 : goes a b = true) (h2 : goes b a = true) : a = b := by
  simp only [goes, decide_eq_true_eq] at h1 h2
  exact h2.eq_of_length_le h1.length_le
theorem goes_trans {a b c : List UInt8} (h1 : goes a b = true) (h2 : goes b c = true) : goes a c = true := by
  simp only [goes, decide_eq_true_eq] at *
  exact h2.trans h1
theorem fit_eq {a b : List UInt8} : fit a b = (goes a b || goes b a) := by simp [fit, goes]
theorem fit_symm {a b : List UInt8} : fit a b = fit b a := by simp [fit, or_comm]
theorem goes_fit {a b c : List UInt8} (h1 : goes a b = true) (h2 : goes a c = true) : fit b c = true := by
  simp only [goes, fit, decide_eq_true_eq] at *
  rcases Nat.le_total b.length c.length with h | h
  · exact .inr (List.prefix_of_prefix_length_le h1 h2 h)
  · exact .inl (List.prefix_of_prefix_length_le h2 h1 h)
theorem longer_eq {a b : List UInt8} : longer a b = if goes b a = true then b else a := by simp [longer, goes]
theorem longer_hist {a b : List UInt8} : (if a.length < b.length ∧ goes b a = true then b else a) = longer a b := by
  rw [longer_eq]
  by_cases h : goes b a = true
  · by_cases hl : a.length < b.length
    · rw [if_pos ⟨hl, h⟩, if_pos h]
    · rw [if_neg (fun h => hl h.1), if_pos h]
      simp only [goes, decide_eq_true_eq] at h
      exact h.eq_of_length_le (by omega)
  · rw [if_neg (fun x => h x.2), if_neg h]
theorem longer_goes {a b : List UInt8} (h : fit a b = true) : goes (longer a b) a = true ∧ goes (longer a b) b = true := by
  rw [longer_eq]
  rw [fit_eq, Bool.or_eq_true] at h
  split
  · rename_i hb; exact ⟨hb, goes_refl⟩
  · rename_i hb
    rcases h with h | h
    · exact ⟨goes_refl, h⟩
    · exact absurd h hb
theorem longer_or {a b : List UInt8} : longer a b = a ∨ longer a b = b := by rw [longer_eq]; split <;> simp
theorem goes_step {a b : List UInt8} {i : Nat} (hi : ∀ k, k < i → a[k]? = b[k]?) (hl : b.length ≤ a.length) (h : i = b.length) : goes a b = true := by
  simp only [goes, decide_eq_true_eq, List.prefix_iff_eq_take]
  apply List.ext_getElem?
  intro k
  rw [List.getElem?_take]
  split
  · exact (hi k (by omega)).symm
  · exact List.getElem?_eq_none (by omega)
theorem goes_not {a b : List UInt8} {i : Nat} {x y : UInt8} (hx : a[i]? = some x) (hy : b[i]? = some y) (h : x ≠ y) : goes a b = false := by
  simp only [goes, decide_eq_false_iff_not]
  rintro ⟨r, rfl⟩
  rw [List.getElem?_append_left (List.getElem?_eq_some_iff.1 hy).1, hy] at hx
  cases hx; exact h rfl

/-! ### Forks -/
def allBefore (l : List (List UInt8)) (k i : Nat) : Prop := ∀ k' i', i' < k' → (k' < k ∨ k' = k ∧ i' < i) → ∀ x y, l[i']? = some x → l[k']? = some y → fit x y = true
def ForkP (l : List (List UInt8)) (a b : Int) : Prop :=
  (∃ (i k : Nat) (x y : List UInt8), i < k ∧ l[i]? = some x ∧ l[k]? = some y ∧ fit x y = false ∧ allBefore l k i ∧ a = i ∧ b = k) ∨ (allBefore l l.length 0 ∧ a = -1 ∧ b = -1)
theorem allBefore_zero {l : List (List UInt8)} : allBefore l 0 0 := fun k' i' h h' => by omega
theorem allBefore_step {l : List (List UInt8)} {k i : Nat} {x y : List UInt8} (h : allBefore l k i) (hx : l[i]? = some x) (hy : l[k]? = some y) (hf : fit x y = true) : allBefore l k (i + 1) := by
  intro k' i' h1 h2 u v hu hv
  by_cases e : k' = k ∧ i' = i
  · obtain ⟨rfl, rfl⟩ := e
    rw [hx] at hu; rw [hy] at hv; cases hu; cases hv; exact hf
  · exact h k' i' h1 (by omega) u v hu hv
theorem allBefore_row {l : List (List UInt8)} {k : Nat} (h : allBefore l k k) : allBefore l (k + 1) 0 := fun k' i' h1 h2 => h k' i' h1 (by omega)
/-- The first pair that does not fit is one. -/
theorem fork_found {l : List (List UInt8)} {a b : Int} {k i : Nat} {x y : List UInt8} (hF : ForkP l a b) (h : allBefore l k i) (hik : i < k) (hx : l[i]? = some x) (hy : l[k]? = some y) (hf : fit x y = false) : a = i ∧ b = k := by
  rcases hF with ⟨i2, k2, x2, y2, h1, hx2, hy2, hf2, hb, rfl, rfl⟩ | ⟨hb, _, _⟩
  · by_cases e : k2 = k ∧ i2 = i
    · obtain ⟨rfl, rfl⟩ := e; exact ⟨rfl, rfl⟩
    · by_cases hlt : k2 < k ∨ k2 = k ∧ i2 < i
      · have := h k2 i2 h1 hlt x2 y2 hx2 hy2; rw [hf2] at this; cases this
      · have := hb k i hik (by omega) x y hx hy; rw [hf] at this; cases this
  · have hlt := (List.getElem?_eq_some_iff.1 hy).1
    have := hb k i hik (.inl hlt) x y hx hy; rw [hf] at this; cases this
theorem fork_none {l : List (List UInt8)} {a b : Int} (hF : ForkP l a b) (h : allBefore l l.length 0) : a = -1 ∧ b = -1 := by
  rcases hF with ⟨i2, k2, x2, y2, h1, hx2, hy2, hf2, hb, rfl, rfl⟩ | ⟨_, h1, h2⟩
  · have hlt := (List.getElem?_eq_some_iff.1 hy2).1
    have := h k2 i2 h1 (.inl hlt) x2 y2 hx2 hy2; rw [hf2] at this; cases this
  · exact ⟨h1, h2⟩
end Go.Aff.L09

/- Layer 9, walked: which histories may be; counts, places, ends. -/
namespace Go.Aff.L09
open Go.Proofs Go.Aff
set_option linter.unusedVariables false
set_option linter.unusedSimpArgs false
attribute [local go_sem] Try.underlying3 Try.underlying4 Try.underlying5 Try.underlying9 Try.underlying30 fits3 fits9

theorem all_take {h : List UInt8} {i : Nat} {b : UInt8} {p : UInt8 → Bool} (hb : h[i]? = some b) : (h.take (i + 1)).all p = ((h.take i).all p && p b) := by
  rw [List.take_add_one, hb]; simp

theorem right_c {h : List UInt8} {n : Int} (h0 : -9223372036854775808 ≤ n) (h1 : n ≤ 9223372036854775807) {σ : AST} {K : AV → AST → Prop} (hK : K (.bool (right h n)) σ) : TCalls Try.prog 66 [.str h, .int .i64 n] σ K := by
  refine tcalls_walk Try.f66 _ [.tmp 4] Try.func66 rfl rfl rfl mixed (Nat.le_of_ble_eq_true rfl) rfl fun hlen => ?_
  have hs : h.length ≤ 9223372036854775807 := hlen (.str h) (by simp)
  simp -dsimp only [↓reduceIte, go_sem]
  refine arr_intro fun _ => ?_
  simp -dsimp only [↓reduceIte, go_sem]
  refine awp_rounds (fun (i : Nat) τ s => i ≤ h.length ∧ s = σ ∧ τ 0 = .str h ∧ τ 1 = .int .i64 n ∧ τ 7 = .int .i64 h.length ∧ τ 8 = .int .i64 i ∧ (h.take i).all (fun b => decide ((b.toNat : Int) < n)) = true) (fun i => h.length - i) 0 ?_ ?_
  · refine ⟨by omega, rfl, ?_, ?_, ?_, ?_, by simp⟩ <;> simp only [go_sem] <;> rfl
  · rintro i τ s ⟨hi, rfl, t0, t1, t7, t8, hall⟩
    simp -dsimp only [↓reduceIte, go_sem, t0, t1, t7, t8]
    refine boolW_split (fun hb => ?_) (fun hb => ?_)
    · have hb : i < h.length := by simp at hb; omega
      obtain ⟨b, hbb⟩ := get_lt hb
      have hbt := b.toNat_lt
      simp -dsimp only [↓reduceIte, go_sem, t0, t1, t7, t8]
      refine nth_get hbb ?_
      simp -dsimp only [↓reduceIte, go_sem, t0, t1, t7, t8]
      rw [wrap_i64 (n := (b.toNat : Int)) (by omega) (by omega)]
      refine boolW_split (fun hc => ?_) (fun hc => ?_)
      · have hc : n ≤ b.toNat := by simpa using hc
        have : right h n = false := by
          unfold right
          rw [Bool.and_eq_false_iff]; left
          rw [List.all_eq_false]
          exact ⟨b, List.mem_iff_getElem?.2 ⟨i, hbb⟩, by simp; omega⟩
        rw [this] at hK
        simp -dsimp only [↓reduceIte, go_sem, t0, t1, t7, t8]
        exact hK
      · have hc : ¬ n ≤ b.toNat := by simpa using hc
        simp -dsimp only [↓reduceIte, go_sem, t0, t1, t7, t8]
        rw [wrap_i64 (by omega) (by omega)]
        refine later_intro ⟨i + 1, by omega, by omega, rfl, ?_, ?_, ?_, ?_, ?_⟩ <;> (try simp only [go_sem, t0, t1, t7, t8]) <;> try rfl
        rw [all_take hbb, hall]; simp; omega
    · have hb : i = h.length := by simp at hb; omega
      subst hb
      rw [List.take_length] at hall
      have hr : right h n = decide (h.length ≤ 512 ∧ 1 ≤ n ∧ n ≤ 256) := by unfold right; rw [hall]; simp
      rw [hr] at hK
      simp -dsimp only [↓reduceIte, go_sem, t0, t1, t7, t8]
      refine arr_intro fun _ => ?_
      simp -dsimp only [↓reduceIte, go_sem, t0, t1, t7, t8]
      refine guardV_split (fun h3 => ?_) (fun h3 => ?_) <;> (try rw [h3])
      · have h3 : h.length ≤ 512 := by simp at h3; omega
        simp -dsimp only [↓reduceIte, go_sem, t0, t1, t7, t8]
        refine guardV_split (fun h4 => ?_) (fun h4 => ?_) <;> (try rw [h4])
        · have h4 : 1 ≤ n := by simpa using h4
          simp -dsimp only [↓reduceIte, go_sem, t0, t1, t7, t8]
          rw [show decide (n ≤ 256) = decide (h.length ≤ 512 ∧ 1 ≤ n ∧ n ≤ 256) by simp [h3, h4]]
          exact hK
        · have h4 : ¬ 1 ≤ n := by simpa using h4
          simp -dsimp only [↓reduceIte, go_sem, t0, t1, t7, t8]
          rw [show decide (h.length ≤ 512 ∧ 1 ≤ n ∧ n ≤ 256) = false by simp; omega] at hK
          exact hK
      · have h3 : ¬ h.length ≤ 512 := by simp at h3; omega
        simp -dsimp only [↓reduceIte, go_sem, t0, t1, t7, t8]
        rw [show decide (h.length ≤ 512 ∧ 1 ≤ n ∧ n ≤ 256) = false by simp; omega] at hK
        exact hK

theorem Right_c {h : List UInt8} {n : Int} (h0 : -9223372036854775808 ≤ n) (h1 : n ≤ 9223372036854775807) {σ : AST} {K : AV → AST → Prop} (hK : K (.bool (right h n)) σ) : TCalls Try.prog 12 [.str h, .int .i64 n] σ K := by
  refine tcalls_walk Try.f12 _ [.tmp 4] Try.func12 rfl rfl rfl mixed (Nat.le_of_ble_eq_true rfl) rfl fun hlen => ?_
  have hs : h.length ≤ 9223372036854775807 := hlen (.str h) (by simp)
  have no : ¬ (h.length ≤ 512 ∧ 1 ≤ n ∧ n ≤ 256) → K (.bool false) σ := fun hno => by
    rw [show right h n = false by unfold right; rw [decide_eq_false hno, Bool.and_false]] at hK; exact hK
  simp -dsimp only [↓reduceIte, go_sem]
  refine guardV_split (fun h2 => ?_) (fun h2 => ?_) <;> (try rw [h2])
  · have h2 : 1 ≤ n := by simp at h2; omega
    simp -dsimp only [↓reduceIte, go_sem]
    refine guardV_split (fun h3 => ?_) (fun h3 => ?_) <;> (try rw [h3])
    · have h3 : n ≤ 256 := by simp at h3; omega
      simp -dsimp only [↓reduceIte, go_sem]
      refine arr_intro fun _ => ?_
      simp -dsimp only [↓reduceIte, go_sem]
      refine boolW_split (fun h4 => ?_) (fun h4 => ?_)
      · have h4 : 512 < h.length := by simp at h4; omega
        simp -dsimp only [↓reduceIte, go_sem]
        exact no (by omega)
      · have h4 : h.length ≤ 512 := by simp at h4; omega
        simp -dsimp only [↓reduceIte, go_sem]
        refine awp_rounds (fun (i : Nat) τ s => i ≤ h.length ∧ s = σ ∧ τ 0 = .str h ∧ τ 1 = .int .i64 n ∧ τ 5 = .int .i64 i ∧ (h.take i).all (fun b => decide ((b.toNat : Int) < n)) = true) (fun i => h.length - i) 0 ?_ ?_
        · refine ⟨by omega, rfl, ?_, ?_, ?_, by simp⟩ <;> simp only [go_sem] <;> rfl
        · rintro i τ s ⟨hi, rfl, t0, t1, t5, hall⟩
          simp -dsimp only [↓reduceIte, go_sem, t0, t1, t5]
          refine arr_intro fun _ => ?_
          simp -dsimp only [↓reduceIte, go_sem, t0, t1, t5]
          refine boolW_split (fun hb => ?_) (fun hb => ?_)
          · have hb : i < h.length := by simp at hb; omega
            obtain ⟨b, hbb⟩ := get_lt hb
            have hbt := b.toNat_lt
            simp -dsimp only [↓reduceIte, go_sem, t0, t1, t5]
            refine nth_get hbb ?_
            simp -dsimp only [↓reduceIte, go_sem, t0, t1, t5]
            rw [wrap_i64 (n := (b.toNat : Int)) (by omega) (by omega), wrap_i64 (n := n - 1) (by omega) (by omega)]
            refine boolW_split (fun hc => ?_) (fun hc => ?_)
            · have hc : n ≤ b.toNat := by simp at hc; omega
              have : right h n = false := by
                unfold right
                rw [Bool.and_eq_false_iff]; left
                rw [List.all_eq_false]
                exact ⟨b, List.mem_iff_getElem?.2 ⟨i, hbb⟩, by simp; omega⟩
              rw [this] at hK
              simp -dsimp only [↓reduceIte, go_sem, t0, t1, t5]
              exact hK
            · have hc : ¬ n ≤ b.toNat := by simp at hc; omega
              simp -dsimp only [↓reduceIte, go_sem, t0, t1, t5]
              rw [wrap_i64 (by omega) (by omega)]
              refine later_intro ⟨i + 1, by omega, by omega, rfl, ?_, ?_, ?_, ?_⟩ <;> (try simp only [go_sem, t0, t1, t5]) <;> try rfl
              rw [all_take hbb, hall]; simp; omega
          · have hb : i = h.length := by simp at hb; omega
            subst hb
            rw [List.take_length] at hall
            have hr : right h n = true := by unfold right; rw [hall]; simp; omega
            rw [hr] at hK
            simp -dsimp only [↓reduceIte, go_sem, t0, t1, t5]
            exact hK
    · have h3 : ¬ n ≤ 256 := by simp at h3; omega
      simp -dsimp only [↓reduceIte, go_sem]
      exact no (by omega)
  · have h2 : ¬ 1 ≤ n := by simp at h2; omega
    simp -dsimp only [↓reduceIte, go_sem]
    exact no (by omega)

end Go.Aff.L09

/- Layer 9, walked: ends, beginnings, forks; awake. -/
namespace Go.Aff.L09
open Go.Proofs Go.Aff
set_option linter.unusedVariables false
set_option linter.unusedSimpArgs false
attribute [local go_sem] Try.underlying3 Try.underlying4 Try.underlying5 Try.underlying9 Try.underlying30 fits3 fits9

theorem hp2_c {a b : List UInt8} {σ : AST} {K : AV → AST → Prop} (hK : K (.bool (goes a b)) σ) : TCalls Try.prog 74 [.str a, .str b] σ K := by
  refine tcalls_walk Try.f74 _ [.tmp 4] Try.func74 rfl rfl rfl mixed (Nat.le_of_ble_eq_true rfl) rfl fun hlen => ?_
  simp -dsimp only [↓reduceIte, go_sem]
  refine arr_intro fun _ => ?_
  simp -dsimp only [↓reduceIte, go_sem]
  refine arr_intro fun _ => ?_
  simp -dsimp only [↓reduceIte, go_sem]
  refine guardV_split (fun h1 => ?_) (fun h1 => ?_) <;> (try rw [h1])
  · have h1 : b.length ≤ a.length := by simp at h1; omega
    simp -dsimp only [↓reduceIte, go_sem]
    refine arr_intro fun _ => ?_
    simp -dsimp only [↓reduceIte, go_sem]
    refine side_later (by omega) ?_
    simp -dsimp only [↓reduceIte, go_sem]
    refine side_later (by omega) ?_
    simp -dsimp only [↓reduceIte, go_sem]
    rw [show (a.take b.length == b) = goes a b by rw [Bool.eq_iff_iff]; simp [goes]; rw [List.prefix_iff_eq_take]; exact eq_comm]
    exact hK
  · have h1 : ¬ b.length ≤ a.length := by simp at h1; omega
    simp -dsimp only [↓reduceIte, go_sem]
    rw [show goes a b = false by simp [goes]; intro h; exact h1 h.length_le] at hK
    exact hK
theorem hp_c {a b : List UInt8} {σ : AST} {K : AV → AST → Prop} (hK : K (.bool (goes a b)) σ) : TCalls Try.prog 63 [.str a, .str b] σ K := by
  refine tcalls_walk Try.f63 _ [.tmp 4] Try.func63 rfl rfl rfl mixed (Nat.le_of_ble_eq_true rfl) rfl fun hlen => ?_
  simp -dsimp only [↓reduceIte, go_sem]
  refine hp2_c ?_
  simp -dsimp only [↓reduceIte, go_sem]
  exact hK
theorem goes_c {a b : List UInt8} {σ : AST} {K : AV → AST → Prop} (hK : K (.bool (goes a b)) σ) : TCalls Try.prog 47 [.str a, .str b] σ K := by
  refine tcalls_walk Try.f47 _ [.tmp 4] Try.func47 rfl rfl rfl mixed (Nat.le_of_ble_eq_true rfl) rfl fun hlen => ?_
  simp -dsimp only [↓reduceIte, go_sem]
  refine hp_c ?_
  simp -dsimp only [↓reduceIte, go_sem]
  exact hK

theorem fit_c {a b : List UInt8} {σ : AST} {K : AV → AST → Prop} (hK : K (.bool (fit a b)) σ) : TCalls Try.prog 35 [.str a, .str b] σ K := by
  rw [fit_eq] at hK
  refine tcalls_walk Try.f35 _ [.tmp 4] Try.func35 rfl rfl rfl mixed (Nat.le_of_ble_eq_true rfl) rfl fun hlen => ?_
  simp -dsimp only [↓reduceIte, go_sem]
  refine goes_c ?_
  simp -dsimp only [↓reduceIte, go_sem]
  cases hg : goes a b with
  | true =>
    rw [hg] at hK
    simp -dsimp only [↓reduceIte, go_sem]
    exact hK
  | false =>
    rw [hg] at hK
    simp -dsimp only [↓reduceIte, go_sem]
    refine goes_c ?_
    simp -dsimp only [↓reduceIte, go_sem]
    exact hK
end Go.Aff.L09

/- Layer 9, walked: forks; awake. -/
namespace Go.Aff.L09
open Go.Proofs Go.Aff
set_option linter.unusedVariables false
set_option linter.unusedSimpArgs false
attribute [local go_sem] Try.underlying3 Try.underlying4 Try.underlying5 Try.underlying9 Try.underlying30 fits3 fits9

set_option maxRecDepth 200000 in
theorem E33 : ElemT Try.prog 30 9 1 16 := ⟨rfl, by kernel_rfl, by kernel_rfl, ⟨.str [], ⟨_, _, rfl, rfl, rfl, rfl, rfl⟩⟩, by decide⟩

theorem sizes_str {l : List (List UInt8)} : ∀ v ∈ l.map AV.str, v.size = 1 := by
  intro v hv; obtain ⟨s, _, rfl⟩ := List.mem_map.1 hv; simp [AV.size]

theorem fork_c {l : List (List UInt8)} {tk0 : Tk} {σ : AST} {K : AV → AST → Prop} (hK : ∀ a b, ForkP l a b → K (.tuple [.int .i64 a, .int .i64 b]) σ) : TCalls Try.prog 18 [.slice tk0 (l.map AV.str)] σ K := by
  refine tcalls_walk Try.f18 _ [.tmp 2, .tmp 3] Try.func18 rfl rfl rfl mixed (Nat.le_of_ble_eq_true rfl) rfl fun hlen => ?_
  have hs : l.length ≤ 9223372036854775807 := by
    have := hlen (.slice tk0 (l.map AV.str)) (by simp)
    simp only [lenOk, List.length_map, maxL] at this; exact this
  simp -dsimp only [↓reduceIte, go_sem]
  refine arr_intro fun _ => ?_
  simp only [List.length_map]
  simp -dsimp only [↓reduceIte, go_sem]
  refine awp_rounds (fun (k : Nat) τ s => k ≤ l.length ∧ s = σ ∧ τ 0 = .slice tk0 (l.map AV.str) ∧ τ 8 = .slice tk0 (l.map AV.str) ∧ τ 9 = .int .i64 l.length ∧ τ 10 = .int .i64 k ∧ allBefore l k 0) (fun k => l.length - k) 0 ?_ ?_
  · refine ⟨by omega, rfl, ?_, ?_, ?_, ?_, allBefore_zero⟩ <;> simp only [go_sem] <;> rfl
  · rintro k τ s ⟨hk, rfl, t0, t8, t9, t10, hall⟩
    simp -dsimp only [↓reduceIte, go_sem, t0, t8, t9, t10]
    refine boolW_split (fun hb => ?_) (fun hb => ?_)
    · have hb : k < l.length := by simp at hb; omega
      obtain ⟨y, hy⟩ := get_lt hb
      simp -dsimp only [↓reduceIte, go_sem, t0, t8, t9, t10]
      refine nth_get hy ?_
      simp -dsimp only [↓reduceIte, go_sem, t0, t8, t9, t10]
      refine slice_hi E33 ⟨_, Try.underlying9⟩ sizes_str (by simp; omega) fun tk' => ?_
      simp -dsimp only [↓reduceIte, go_sem, t0, t8, t9, t10]
      refine arr_intro fun _ => ?_
      rw [List.length_take, List.length_map, Nat.min_eq_left (by omega)]
      simp -dsimp only [↓reduceIte, go_sem, t0, t8, t9, t10]
      refine awp_rounds (fun (i : Nat) τ s' => i ≤ k ∧ s' = s ∧ τ 0 = .slice tk0 (l.map AV.str) ∧ τ 8 = .slice tk0 (l.map AV.str) ∧ τ 9 = .int .i64 l.length ∧ τ 10 = .int .i64 k ∧ τ 4 = .int .i64 k ∧ τ 5 = .str y ∧
        τ 17 = .slice tk' ((l.take k).map AV.str) ∧ τ 18 = .int .i64 k ∧ τ 19 = .int .i64 i ∧ allBefore l k i) (fun i => k - i) 0 ?_ ?_
      · refine ⟨by omega, rfl, ?_, ?_, ?_, ?_, ?_, ?_, ?_, ?_, ?_, hall⟩ <;> simp only [go_sem, t0, t8, t9, t10, List.map_take] <;> rfl
      · rintro i τ s' ⟨hi, rfl, t0, t8, t9, t10, t4, t5, t17, t18, t19, hall⟩
        simp -dsimp only [↓reduceIte, go_sem, t0, t8, t9, t10, t4, t5, t17, t18, t19]
        refine boolW_split (fun hc => ?_) (fun hc => ?_)
        · have hc : i < k := by simp at hc; omega
          obtain ⟨x, hx⟩ := get_lt (l := l) (i := i) (by omega)
          have hx2 : (l.take k)[i]? = some x := by rw [List.getElem?_take, if_pos hc]; exact hx
          simp -dsimp only [↓reduceIte, go_sem, t0, t8, t9, t10, t4, t5, t17, t18, t19]
          refine nth_get hx2 ?_
          simp -dsimp only [↓reduceIte, go_sem, t0, t8, t9, t10, t4, t5, t17, t18, t19]
          refine fit_c ?_
          cases hf : fit x y with
          | true =>
            simp -dsimp only [↓reduceIte, go_sem, t0, t8, t9, t10, t4, t5, t17, t18, t19]
            rw [wrap_i64 (by omega) (by omega)]
            refine later_intro ⟨i + 1, by omega, by omega, rfl, ?_, ?_, ?_, ?_, ?_, ?_, ?_, ?_, ?_, allBefore_step hall hx hy hf⟩ <;> simp only [go_sem, t0, t8, t9, t10, t4, t5, t17, t18, t19] <;> rfl
          | false =>
            simp -dsimp only [↓reduceIte, go_sem, t0, t8, t9, t10, t4, t5, t17, t18, t19]
            exact hK _ _ (.inl ⟨i, k, x, y, hc, hx, hy, hf, hall, rfl, rfl⟩)
        · have hc : i = k := by simp at hc; omega
          subst hc
          simp -dsimp only [↓reduceIte, go_sem, t0, t8, t9, t10, t4, t5, t17, t18, t19]
          rw [wrap_i64 (by omega) (by omega)]
          refine later_intro ⟨i + 1, by omega, by omega, rfl, ?_, ?_, ?_, ?_, allBefore_row hall⟩ <;> simp only [go_sem, t0, t8, t9, t10, t4, t5, t17, t18, t19] <;> rfl
    · have hb : k = l.length := by simp at hb; omega
      subst hb
      simp -dsimp only [↓reduceIte, go_sem, t0, t8, t9, t10]
      exact hK _ _ (.inr ⟨hall, rfl, rfl⟩)

theorem fork_awake {a b : Int} (h : ForkP [[97], [97, 98], [98]] a b) : a = 0 ∧ b = 2 := by
  refine fork_found (k := 2) (i := 0) (x := [97]) (y := [98]) h ?_ (by decide) rfl rfl (by decide)
  intro k' i' h1 h2 x y hx hy
  obtain ⟨rfl, rfl⟩ : k' = 1 ∧ i' = 0 := by omega
  simp at hx hy
  subst hx; subst hy; decide

end Go.Aff.L09

