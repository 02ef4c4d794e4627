import Derived.Test.YtikbkaedemmpmaaG29
import Derived.Test.YtikbkaedemmpmaaG19
import Derived.Test.YtikbkaedemmpmaaG28
import Derived.Test.YtikbkaedemmpmaaG1

set_option linter.unusedSimpArgs false
set_option linter.unusedVariables false

/- Layer 32: what was laid is read back. -/
namespace Go.Aff.L10
open Go.Proofs Go.Aff Go.Aff.L01 Classical
set_option linter.unusedVariables false
set_option linter.unusedSimpArgs false
set_option maxRecDepth 20000

def rdAt (x y : List UInt8) : Rdr := ⟨x ++ y, x.length, 0⟩
theorem int_back {x y : List UInt8} {n : Int} (h0 : -9223372036854775808 ≤ n) (h1 : n ≤ 9223372036854775807) : (rdAt x (numS n ++ y)).int = (n, rdAt (x ++ numS n) y) := by
  have h := num_back (x := x) (y := y) h0 h1
  have h2 : numR (x ++ (numS n ++ y)) (x.length : Int) = (n, ((x.length + (numS n).length : Nat) : Int), 0) := by
    rw [numR_nat (by simp)]; exact h
  simp only [rdAt, Rdr.int, h2]
  simp [List.append_assoc]
theorem rtext_back {x y t : List UInt8} (ht : t.length ≤ 16384) : (rdAt x (textS t ++ y)).text = (t, rdAt (x ++ textS t) y) := by
  have h := text_back (x := x) (y := y) (t := t) (by omega)
  have h2 : textR (x ++ (textS t ++ y)) (x.length : Int) = (t, ((x.length + (textS t).length : Nat) : Int), 0) := by
    rw [textR_nat (by simp)]; exact h
  simp only [rdAt, Rdr.text, h2]
  simp [List.append_assoc]
theorem digOf_l (d : Dig) : digOf d.l = (d, 0) := by unfold digOf; rw [dif_pos d.h]
theorem rdig_back {x y : List UInt8} {d : Dig} : (rdAt x (digS d ++ y)).dig = (d, rdAt (x ++ digS d) y) := by
  have h := rtext_back (x := x) (y := y) (t := d.l) (by rw [d.h]; omega)
  simp only [Rdr.dig, digS, h, digOf_l]
  simp
theorem rints_back {x y : List UInt8} {l : List Int} (h : InI l) (hl : ¬ 512 < l.length) : (rdAt x (laidAll numS l ++ y)).ints = (l, rdAt (x ++ laidAll numS l) y) := by
  have h2 := ints_back (x := x) (y := y) h hl
  simp only [rdAt, Rdr.ints, intsR, h2]
  simp [List.append_assoc]
def Rng (n : Int) : Prop := -9223372036854775808 ≤ n ∧ n ≤ 9223372036854775807
theorem int_back' {x y : List UInt8} {n : Int} (h : Rng n) : (rdAt x (numS n ++ y)).int = (n, rdAt (x ++ numS n) y) := int_back h.1 h.2
theorem pend_back {x y : List UInt8} {p : Pend} (hp : p.Ok) : (rdAt x (pendB p ++ y)).pend = (p, rdAt (x ++ pendB p) y) := by
  obtain ⟨h1, h2, h3, h4⟩ := hp
  simp only [In] at h1 h2 h3 h4
  have a1 : Rng p.client := ⟨by omega, by omega⟩
  have a2 : Rng p.num := ⟨by omega, by omega⟩
  have a3 : Rng p.kind := ⟨by omega, by omega⟩
  have a4 : Rng p.target := ⟨by omega, by omega⟩
  have e : pendB p ++ y = numS p.client ++ (numS p.num ++ (numS p.kind ++ (numS p.target ++ (digS p.asked ++ (digS p.proof ++ y))))) := by simp [pendB]
  rw [e]
  simp only [Rdr.pend, int_back' a1, int_back' a2, int_back' a3, int_back' a4, rdig_back]
  simp [pendB, List.append_assoc]
theorem pends_back : ∀ {l : List Pend} {x y : List UInt8}, (∀ p ∈ l, p.Ok) → Rdr.pends l.length (rdAt x (l.flatMap pendB ++ y)) = (l, rdAt (x ++ l.flatMap pendB) y)
  | [], x, y, _ => by simp [Rdr.pends]
  | p :: l, x, y, h => by
    have h1 := pend_back (x := x) (y := l.flatMap pendB ++ y) (h p (List.mem_cons_self ..))
    have h2 := pends_back (l := l) (x := x ++ pendB p) (y := y) (fun q hq => h q (List.mem_cons_of_mem _ hq))
    have e0 : (rdAt x ((p :: l).flatMap pendB ++ y)).e = 0 := rfl
    rw [List.length_cons, Rdr.pends, if_neg (by rw [e0]; decide)]
    rw [List.flatMap_cons, List.append_assoc, h1]
    simp only [h2]
    simp [List.append_assoc]
theorem rep_back {x y : List UInt8} {a : Rep} (hok : a.Ok) : (rdAt x (ansB a ++ y)).rep = (a, rdAt (x ++ ansB a) y) := by
  obtain ⟨hp, h1, h2, h3, h4, h5, h6, h7, h8⟩ := hok
  simp only [In, ViewOk] at h1 h2 h5 h6 h7
  have a1 : Rng a.num := ⟨by omega, by omega⟩
  have a2 : Rng a.last := ⟨by omega, by omega⟩
  have a3 : Rng (a.pending.length : Int) := ⟨by omega, by omega⟩
  have a4 : Rng a.vnum := ⟨by omega, by omega⟩
  have t1 : a.view.length ≤ 16384 := by omega
  have t2 : a.value.length ≤ 16384 := by omega
  have t3 : a.seen.length ≤ 16384 := by omega
  have hin : In 0 8 (a.pending.length : Int) := ⟨by omega, by omega⟩
  have e : ansB a ++ y = numS a.num ++ (numS a.last ++ (textS a.view ++ (digS a.commit ++ (numS (a.pending.length : Int) ++ (a.pending.flatMap pendB ++ (numS a.vnum ++ (textS a.value ++ (digS a.data ++ (textS a.seen ++ (digS a.seenTag ++ y)))))))))) := by simp [ansB]
  rw [e]
  have e0 : ∀ x y, (rdAt x y).e = 0 := fun _ _ => rfl
  simp only [Rdr.rep, Rdr.rep1, Rdr.rep2, int_back' a1, int_back' a2, int_back' a3, rtext_back t1, rdig_back, hin, not_true_eq_false, and_false, if_false, Int.toNat_natCast, pends_back hp, int_back' a4, rtext_back t2, rtext_back t3]
  simp [ansB, List.append_assoc, rep0]
theorem fields_back {m : Msg} (hok : m.Ok) {x y : List UInt8} : (rdAt x (m.rest ++ y)).fields (getM m.kind m.client) = (m, rdAt (x ++ m.rest) y) := by
  have hk := hok.kinds
  have ho := hok.2.2
  have hm : m = ⟨m.kind, m.client, m.sub, m.rep, m.view, m.by_, m.tag, m.own, m.blob, m.nums⟩ := rfl
  rcases hk with ⟨hq, hs⟩ | ⟨hq, hs⟩ | ⟨hq, hs⟩ | ⟨hq, hs⟩ | ⟨hq, hs⟩ | ⟨hq, hs⟩ | ⟨hq, hs⟩ | ⟨hq, hs⟩ | hq | ⟨hq, hs⟩ | hq
  all_goals
    simp only [Msg.own_, hq] at ho
    simp only [Msg.iff] at ho
    simp [msg0] at ho
    obtain ⟨_, ho⟩ := ho
  · obtain ⟨o1, o2, o3, o4⟩ := hs
    simp only [In] at o1 o2 o3
    have a1 : Rng m.sub.num := ⟨by omega, by omega⟩
    have a2 : Rng m.sub.kind := ⟨by omega, by omega⟩
    have a3 : Rng m.sub.target := ⟨by omega, by omega⟩
    have t1 : m.sub.value.length ≤ 16384 := by omega
    have e : m.rest ++ y = numS m.sub.num ++ (numS m.sub.kind ++ (numS m.sub.target ++ (textS m.sub.value ++ (digS m.sub.asked ++ (digS m.sub.data ++ (y)))))) := by simp [Msg.rest, hq, subB, blobB]
    rw [e]
    simp only [Rdr.fields, getM, hq, Int.reduceEq, if_true, if_false, or_self, or_true, true_or, false_or, or_false, int_back' a1, int_back' a2, int_back' a3, rtext_back t1, rdig_back]
    refine Prod.ext ?_ ?_
    · simp [Msg.iff, hq]; grind
    · simp [Msg.rest, hq, subB, blobB, List.append_assoc]
  · have h0 := hs
    have e : m.rest ++ y = ansB m.rep ++ (y) := by simp [Msg.rest, hq, subB, blobB]
    rw [e]
    simp only [Rdr.fields, getM, hq, Int.reduceEq, if_true, if_false, or_self, or_true, true_or, false_or, or_false, rep_back hs]
    refine Prod.ext ?_ ?_
    · simp [Msg.iff, hq]; grind
    · simp [Msg.rest, hq, subB, blobB, List.append_assoc]
  · obtain ⟨_, _, v1, _⟩ := hs
    have t1 : m.view.length ≤ 16384 := by omega
    have e : m.rest ++ y = textS m.view ++ (digS m.tag ++ (y)) := by simp [Msg.rest, hq, subB, blobB]
    rw [e]
    simp only [Rdr.fields, getM, hq, Int.reduceEq, if_true, if_false, or_self, or_true, true_or, false_or, or_false, rtext_back t1, rdig_back]
    refine Prod.ext ?_ ?_
    · simp [Msg.iff, hq]; grind
    · simp [Msg.rest, hq, subB, blobB, List.append_assoc]
  · obtain ⟨o1, o2, o3⟩ := hs
    simp only [In] at o1 o2
    have a1 : Rng m.blob.owner := ⟨by omega, by omega⟩
    have a2 : Rng m.blob.num := ⟨by omega, by omega⟩
    have t1 : m.blob.cipher.length ≤ 16384 := by omega
    have e : m.rest ++ y = numS m.blob.owner ++ (numS m.blob.num ++ (textS m.blob.cipher ++ (digS m.blob.tag ++ (y)))) := by simp [Msg.rest, hq, subB, blobB]
    rw [e]
    simp only [Rdr.fields, getM, hq, Int.reduceEq, if_true, if_false, or_self, or_true, true_or, false_or, or_false, int_back' a1, int_back' a2, rtext_back t1, rdig_back]
    refine Prod.ext ?_ ?_
    · simp [Msg.iff, hq]; grind
    · simp [Msg.rest, hq, subB, blobB, List.append_assoc]
  · have i1 := hs.in_
    have i2 : ¬ 512 < m.nums.length := by have := hs.2; simp only [In] at this; omega
    have e : m.rest ++ y = laidAll numS m.nums ++ (y) := by simp [Msg.rest, hq, subB, blobB]
    rw [e]
    simp only [Rdr.fields, getM, hq, Int.reduceEq, if_true, if_false, or_self, or_true, true_or, false_or, or_false, rints_back i1 i2]
    refine Prod.ext ?_ ?_
    · simp [Msg.iff, hq]; grind
    · simp [Msg.rest, hq, subB, blobB, List.append_assoc]
  · obtain ⟨o1, o2, o3⟩ := hs
    simp only [In] at o1 o2
    have a1 : Rng m.blob.owner := ⟨by omega, by omega⟩
    have a2 : Rng m.blob.num := ⟨by omega, by omega⟩
    have t1 : m.blob.cipher.length ≤ 16384 := by omega
    have e : m.rest ++ y = numS m.blob.owner ++ (numS m.blob.num ++ (textS m.blob.cipher ++ (digS m.blob.tag ++ (y)))) := by simp [Msg.rest, hq, subB, blobB]
    rw [e]
    simp only [Rdr.fields, getM, hq, Int.reduceEq, if_true, if_false, or_self, or_true, true_or, false_or, or_false, int_back' a1, int_back' a2, rtext_back t1, rdig_back]
    refine Prod.ext ?_ ?_
    · simp [Msg.iff, hq]; grind
    · simp [Msg.rest, hq, subB, blobB, List.append_assoc]
  · have i1 := hs.in_
    have i2 : ¬ 512 < m.nums.length := by have := hs.2; simp only [In] at this; omega
    have e : m.rest ++ y = laidAll numS m.nums ++ (y) := by simp [Msg.rest, hq, subB, blobB]
    rw [e]
    simp only [Rdr.fields, getM, hq, Int.reduceEq, if_true, if_false, or_self, or_true, true_or, false_or, or_false, rints_back i1 i2]
    refine Prod.ext ?_ ?_
    · simp [Msg.iff, hq]; grind
    · simp [Msg.rest, hq, subB, blobB, List.append_assoc]
  · have i1 := hs.in_
    have i2 : ¬ 512 < m.nums.length := by have := hs.2; simp only [In] at this; omega
    have e : m.rest ++ y = laidAll numS m.nums ++ (y) := by simp [Msg.rest, hq, subB, blobB]
    rw [e]
    simp only [Rdr.fields, getM, hq, Int.reduceEq, if_true, if_false, or_self, or_true, true_or, false_or, or_false, rints_back i1 i2]
    refine Prod.ext ?_ ?_
    · simp [Msg.iff, hq]; grind
    · simp [Msg.rest, hq, subB, blobB, List.append_assoc]
  · have h0 := hq
    have e : m.rest ++ y = y := by simp [Msg.rest, hq, subB, blobB]
    rw [e]
    simp only [Rdr.fields, getM, hq, Int.reduceEq, if_true, if_false, or_self, or_true, true_or, false_or, or_false, rdig_back]
    refine Prod.ext ?_ ?_
    · simp [Msg.iff, hq]; grind
    · simp [Msg.rest, hq, subB, blobB, List.append_assoc]
  · obtain ⟨o1, _, _, v1, _⟩ := hs
    simp only [In] at o1
    have a1 : Rng m.by_ := ⟨by omega, by omega⟩
    have t1 : m.view.length ≤ 16384 := by omega
    have e : m.rest ++ y = numS m.by_ ++ (textS m.view ++ (digS m.tag ++ (digS m.own ++ (y)))) := by simp [Msg.rest, hq, subB, blobB]
    rw [e]
    simp only [Rdr.fields, getM, hq, Int.reduceEq, if_true, if_false, or_self, or_true, true_or, false_or, or_false, int_back' a1, rtext_back t1, rdig_back]
    refine Prod.ext ?_ ?_
    · simp [Msg.iff, hq]; grind
    · simp [Msg.rest, hq, subB, blobB, List.append_assoc]
  · have h0 := hq
    have e : m.rest ++ y = digS m.own ++ (y) := by simp [Msg.rest, hq, subB, blobB]
    rw [e]
    simp only [Rdr.fields, getM, hq, Int.reduceEq, if_true, if_false, or_self, or_true, true_or, false_or, or_false, rdig_back]
    refine Prod.ext ?_ ?_
    · simp [Msg.iff, hq]; grind
    · simp [Msg.rest, hq, subB, blobB, List.append_assoc]
theorem get_back {m : Msg} (hok : m.Ok) : getR m.bytes = (m, 0) := by
  have hk := hok.kinds
  have hc := hok.2.1
  simp only [In] at hc
  have hkk : 1 ≤ m.kind ∧ m.kind ≤ 11 := by omega
  have a1 : Rng m.kind := ⟨by omega, by omega⟩
  have a2 : Rng m.client := ⟨by omega, by omega⟩
  have hin : In 1 11 m.kind := hkk
  have e0 : ∀ x y, (rdAt x y).e = 0 := fun _ _ => rfl
  have hA : getA m.bytes = (m.kind, rdAt (numS m.kind) ((if m.kind = 2 ∨ m.kind = 4 ∨ m.kind = 6 then [] else [m.client].flatMap numS) ++ m.rest)) := by
    have e : (⟨m.bytes, 0, 0⟩ : Rdr) = rdAt [] (numS m.kind ++ ((if m.kind = 2 ∨ m.kind = 4 ∨ m.kind = 6 then [] else [m.client].flatMap numS) ++ m.rest)) := by
      simp [rdAt, Msg.bytes]
    simp only [getA, e, int_back' a1, hin, not_true_eq_false, and_false, if_false, List.nil_append]
  have hB : ∃ x, getB (getA m.bytes) = (m.client, rdAt x m.rest) ∧ x ++ m.rest = m.bytes := by
    rw [hA]
    unfold getB
    by_cases h : m.kind = 2 ∨ m.kind = 4 ∨ m.kind = 6
    · rw [if_pos h, if_pos h]
      have h0 : m.client = 0 := by
        have ho := hok.2.2
        rcases h with h | h | h <;> simp [Msg.own_, h, Msg.iff] at ho <;> omega
      exact ⟨numS m.kind, by rw [h0]; simp, by simp [Msg.bytes, h]⟩
    · rw [if_neg h, if_neg h]
      simp only [List.flatMap_cons, List.flatMap_nil, List.append_nil, int_back' a2]
      exact ⟨_, rfl, by simp [Msg.bytes, h]⟩
  obtain ⟨x, hB, hx⟩ := hB
  have hC : getC m.bytes = (m, rdAt (x ++ m.rest) []) := by
    have h := fields_back hok (x := x) (y := [])
    rw [List.append_nil] at h
    simp only [getC, hB]
    rw [hA]; exact h
  have h1 : ¬ (((x ++ m.rest).length : Int) < (m.bytes.length : Int) ∨ ¬ m.Ok) := by rw [hx]; simp [hok]
  simp only [getR, hC, e0, ne_eq, not_true_eq_false, if_false]
  rw [if_neg (by simpa [rdAt] using h1)]
end Go.Aff.L10

/- Walking: maps, makes. -/
namespace Go.Aff
set_option linter.unusedVariables false

variable {P : Program} {σ : AST} {ρ : Operand → AV} {K : AV → AST → Prop} {dst : Option Tmp} {ty : TypeId} {pos : String} {after : Array Edge} {gd : Option (Nat × Bool)}
theorem op_lookup {t : TypeId} {x k : Operand} {ok : Bool} : opW P ρ ⟨dst, .lookup t x k ok, ty, pos, after, gd⟩ σ K = lookupW P σ t (ρ x) (ρ k) ok (At K σ) := nr rfl
theorem op_mapUpdate {t : TypeId} {m k v : Operand} : opW P ρ ⟨dst, .mapUpdate t m k v, ty, pos, after, gd⟩ σ K = mapUpdateW P σ t (ρ m) (ρ k) (ρ v) (AtS K .undef) := nr rfl
theorem op_mapEntry {t : TypeId} {m k : Operand} : opW P ρ ⟨dst, .mapEntry t m k, ty, pos, after, gd⟩ σ K = mapEntryW P σ t (ρ m) (ρ k) K := nr rfl
theorem op_entryStore {t : TypeId} {m st v : Operand} : opW P ρ ⟨dst, .entryStore t m st v, ty, pos, after, gd⟩ σ K = entryStoreW σ (ρ m) (ρ st) (ρ v) (AtS K .undef) := nr rfl
theorem op_makeMap {t : TypeId} : opW P ρ ⟨dst, .makeMap t none, ty, pos, after, gd⟩ σ K = K (.mp (some σ.objs.length)) (σ.push (.map [] 0)) := nr rfl
theorem op_makeSlice {t : TypeId} {n c : Operand} : opW P ρ ⟨dst, .makeSlice t n c, ty, pos, after, gd⟩ σ K = makeSliceW P t (ρ n) (ρ c) σ K := nr rfl
theorem op_delete {s x : Operand} {ts : Array TypeId} : opW P ρ ⟨dst, .call ⟨.builtin .delete, #[s, x], ts⟩, ty, pos, after, gd⟩ σ K = deleteW P ts (ρ s) (ρ x) σ (AtS K (.tuple [])) := nr rfl
theorem op_clear {s : Operand} {ts : Array TypeId} : opW P ρ ⟨dst, .call ⟨.builtin .clear, #[s], ts⟩, ty, pos, after, gd⟩ σ K = clearW P ts (ρ s) σ (AtS K (.tuple [])) := nr rfl
theorem op_range {t : TypeId} {x : Operand} : opW P ρ ⟨dst, .range t x, ty, pos, after, gd⟩ σ K = rangeW P σ t (ρ x) K := nr rfl
theorem op_next {x : Operand} {s : Bool} : opW P ρ ⟨dst, .next x s, ty, pos, after, gd⟩ σ K = nextW σ (ρ x) s K := nr rfl
theorem op_entry {x : Operand} : opW P ρ ⟨dst, .entry x, ty, pos, after, gd⟩ σ K = entryW σ (ρ x) (At K σ) := nr rfl
attribute [go_sem ↓] op_range op_next op_entry op_lookup op_mapUpdate op_mapEntry op_entryStore op_makeMap op_makeSlice op_delete op_clear
end Go.Aff

/- Layer 11: keys, stores, calls. -/
namespace Go.Aff.L10
open Go.Proofs Go.Aff Go.Aff.L01 Classical
set_option linter.unusedVariables false
set_option linter.unusedSimpArgs false
set_option maxRecDepth 20000
structure BKey where
  owner : Int
  num : Int
def bkey0 : BKey := ⟨0, 0⟩
def bkeyPs (x : BKey) : List AV := [.int .i64 x.owner, .int .i64 x.num]
abbrev bkeyV (x : BKey) : AV := .agg (bkeyPs x)
theorem bkeyPs_0 {x : BKey} : (bkeyPs x)[0]? = some (.int .i64 x.owner) := nr rfl
theorem bkeyAt_0 {x : BKey} {v : AV} : partIs Try.prog 95 (bkeyPs x) 0 v = fits Try.prog 3 v := by rw [partIs_of (o := 0) (T := 3) (by kernel_rfl)]; simp [bkeyPs, AV.sizes, AV.size]
theorem bkeySet_0 {x : BKey} {y : Int} : (bkeyPs x).set 0 (.int .i64 y) = bkeyPs { x with owner := y } := nr rfl
theorem bkeyPs_1 {x : BKey} : (bkeyPs x)[1]? = some (.int .i64 x.num) := nr rfl
theorem bkeyAt_1 {x : BKey} {v : AV} : partIs Try.prog 95 (bkeyPs x) 1 v = fits Try.prog 3 v := by rw [partIs_of (o := 1) (T := 3) (by kernel_rfl)]; simp [bkeyPs, AV.sizes, AV.size]
theorem bkeySet_1 {x : BKey} {y : Int} : (bkeyPs x).set 1 (.int .i64 y) = bkeyPs { x with num := y } := nr rfl
theorem sizes_bkey {x : BKey} : AV.sizes (bkeyPs x) = 2 := by simp [bkeyPs, AV.sizes, AV.size]
theorem shapes_bkey {x : BKey} : AV.shapes (bkeyPs x) = [.leaf, .leaf] := by simp [bkeyPs, AV.shapes, AV.shape]
theorem fits_bkey {v : AV} : fits Try.prog 95 v = (v.isAgg = true ∧ v.size = 2) := fits_agg (by kernel_rfl) (by kernel_rfl)
theorem zero_bkey : zeroA Try.prog 12 95 = .agg (bkeyPs bkey0) := by kernel_rfl
theorem zt_bkey : ZeroOf Try.prog 95 (.agg (bkeyPs bkey0)) = True := eq_true ⟨_, _, rfl, rfl, rfl, rfl, rfl⟩
theorem built_bkey : Built Try.prog 95 = True := eq_true (by unfold Built; rw [Try.underlying95]; decide +kernel)
theorem strip_bkey {x : BKey} : AV.strips (bkeyPs x) = bkeyPs x := by simp [bkeyPs, AV.strips, AV.strip]
theorem noRef_bkey {x : BKey} : AV.noRefs (bkeyPs x) = true := by simp [bkeyPs, AV.noRefs, AV.noRef]
structure RSt where
  l : List Blob
def rst0 : RSt := ⟨[]⟩
def rstPs (t0 : Tk) (x : RSt) : List AV := [.slice t0 (x.l.map blobV)]
abbrev rstV (t0 : Tk) (x : RSt) : AV := .agg (rstPs t0 x)
theorem rstPs_0 {t0 : Tk} {x : RSt} : (rstPs t0 x)[0]? = some (.slice t0 (x.l.map blobV)) := nr rfl
theorem rstSet_0 {t0 : Tk} {u0 : Tk} {x : RSt} {y : List Blob} : (rstPs t0 x).set 0 (.slice u0 (y.map blobV)) = rstPs u0 { x with l := y } := nr rfl
theorem sizes_rst {t0 : Tk} {x : RSt} : AV.sizes (rstPs t0 x) = 1 := by simp [rstPs, AV.sizes, AV.size]
theorem shapes_rst {t0 : Tk} {x : RSt} : AV.shapes (rstPs t0 x) = [.leaf] := by simp [rstPs, AV.shapes, AV.shape]
structure Act11 where
  kind : Int
  owner : Int
  number : Int
  b : Blob
  l : List Int
def act0 : Act11 := ⟨0, 0, 0, blob0, []⟩
def actPs (t0 : Tk) (x : Act11) : List AV := [.int .i64 x.kind, .int .i64 x.owner, .int .i64 x.number, .agg (blobPs x.b), .slice t0 (x.l.map (AV.int .i64))]
abbrev actV (t0 : Tk) (x : Act11) : AV := .agg (actPs t0 x)
theorem actPs_0 {t0 : Tk} {x : Act11} : (actPs t0 x)[0]? = some (.int .i64 x.kind) := nr rfl
theorem actSet_0 {t0 : Tk} {x : Act11} {y : Int} : (actPs t0 x).set 0 (.int .i64 y) = actPs t0 { x with kind := y } := nr rfl
theorem actPs_1 {t0 : Tk} {x : Act11} : (actPs t0 x)[1]? = some (.int .i64 x.owner) := nr rfl
theorem actSet_1 {t0 : Tk} {x : Act11} {y : Int} : (actPs t0 x).set 1 (.int .i64 y) = actPs t0 { x with owner := y } := nr rfl
theorem actPs_2 {t0 : Tk} {x : Act11} : (actPs t0 x)[2]? = some (.int .i64 x.number) := nr rfl
theorem actSet_2 {t0 : Tk} {x : Act11} {y : Int} : (actPs t0 x).set 2 (.int .i64 y) = actPs t0 { x with number := y } := nr rfl
theorem actPs_3 {t0 : Tk} {x : Act11} : (actPs t0 x)[3]? = some (.agg (blobPs x.b)) := nr rfl
theorem actSet_3 {t0 : Tk} {x : Act11} {y : Blob} : (actPs t0 x).set 3 (.agg (blobPs y)) = actPs t0 { x with b := y } := nr rfl
theorem actPs_4 {t0 : Tk} {x : Act11} : (actPs t0 x)[4]? = some (.slice t0 (x.l.map (AV.int .i64))) := nr rfl
theorem actSet_4 {t0 : Tk} {u0 : Tk} {x : Act11} {y : List Int} : (actPs t0 x).set 4 (.slice u0 (y.map (AV.int .i64))) = actPs u0 { x with l := y } := nr rfl
theorem sizes_act {t0 : Tk} {x : Act11} : AV.sizes (actPs t0 x) = 39 := by simp [actPs, AV.sizes, AV.size, sizes_blob]
theorem shapes_act {t0 : Tk} {x : Act11} : AV.shapes (actPs t0 x) = [.leaf, .leaf, .leaf, .node [.leaf, .leaf, .leaf, .dig], .leaf] := by simp [actPs, AV.shapes, AV.shape, shapes_blob]
theorem fits58 {o : Option Nat} : fits Try.prog 97 (.mp o) = True := by rw [fits_leaf (P := Try.prog) (t := 97) (by kernel_rfl) (by kernel_rfl)]; simp [AV.isAgg, AV.size]
theorem stAt {x y : Option Nat} : partIs Try.prog 99 [.mp x] 0 (.mp y) = True := by rw [partIs_of (o := 0) (T := 97) (by kernel_rfl)]; simp [AV.sizes, AV.size, fits58]
theorem zero60 : zeroA Try.prog 12 99 = .agg [.mp none] := by kernel_rfl
theorem zt60 : ZeroOf Try.prog 99 (.agg [.mp none]) = True := eq_true ⟨_, _, rfl, rfl, rfl, rfl, rfl⟩
theorem built60 : Built Try.prog 99 = True := eq_true (by unfold Built; rw [Try.underlying99]; decide +kernel)
theorem fits60 {v : AV} : fits Try.prog 99 v = (v.isAgg = true ∧ v.size = 1) := fits_agg (by kernel_rfl) (by kernel_rfl)
theorem shape_mp {o : Option Nat} : (AV.mp o).shape = .leaf := by simp [AV.shape]
theorem bkey_ok {a : BKey} : keyOk Try.prog 40 95 (.agg (bkeyPs a)) = true := by
  simp only [keyOk, Try.underlying95, bkeyPs, keyOks, Try.underlying3]
  kernel_rfl
theorem eq_bkey {a b : BKey} : eqA Try.prog 40 95 (.agg (bkeyPs a)) (.agg (bkeyPs b)) = some (decide (a = b)) := by
  have hs : Try.prog.stoodInHeld 95 = false := by kernel_rfl
  simp only [eqA, Try.underlying95, hs, if_true]
  unfold bkeyPs
  rw [eqAs_cons ⟨by decide, by simp [AV.sizes, AV.size], by simp [AV.sizes, AV.size], by kernel_rfl, by simp [AV.size]; kernel_rfl, by kernel_rfl, by simp [AV.size]; kernel_rfl⟩ eq_int3]
  refine (Classical.em (a.owner = b.owner)).elim (fun h0 => ?_) (fun h0 => by rw [if_neg (by simpa [dig_ext] using h0), decide_eq_false (fun e => h0 (congrArg BKey.owner e))])
  rw [if_pos (by simpa [dig_ext] using h0)]
  rw [eqAs_cons ⟨by decide, by simp [AV.sizes, AV.size], by simp [AV.sizes, AV.size], by kernel_rfl, by simp [AV.size]; kernel_rfl, by kernel_rfl, by simp [AV.size]; kernel_rfl⟩ eq_int3]
  refine (Classical.em (a.num = b.num)).elim (fun h1 => ?_) (fun h1 => by rw [if_neg (by simpa [dig_ext] using h1), decide_eq_false (fun e => h1 (congrArg BKey.num e))])
  rw [if_pos (by simpa [dig_ext] using h1)]
  rw [decide_eq_true (by cases a; cases b; simp_all)]; simp only [eqAs]
theorem bin_bkey_eql {a b : BKey} {KV : AV → Prop} : binW Try.prog .eql 95 (.agg (bkeyPs a)) (.agg (bkeyPs b)) KV = KV (.bool (decide (a = b))) := by
  have h : Try.prog.eqGuardType Try.prog.depth 95 = false := by kernel_rfl
  simp [binW, eqW, eq_bkey, h]
theorem bin_bkey_neq {a b : BKey} {KV : AV → Prop} : binW Try.prog .neq 95 (.agg (bkeyPs a)) (.agg (bkeyPs b)) KV = KV (.bool !(decide (a = b))) := by
  have h : Try.prog.eqGuardType Try.prog.depth 95 = false := by kernel_rfl
  simp [binW, eqW, eq_bkey, h]
end Go.Aff.L10

/- Layer 32, plainly: numbers with two contents. -/
namespace Go.Aff.L32
open Classical
set_option linter.unusedVariables false
variable {α β : Type}
/-- A thing ahead of all others that differ at it alone. -/
theorem countP_step {p q : α → Bool} {k : α} : ∀ {U : List α}, U.Nodup → k ∈ U → p k = false → q k = true → (∀ x, x ≠ k → q x = p x) → U.countP q = U.countP p + 1
  | [], _, h, _, _, _ => by simp at h
  | x :: U, hU, hk, hp, hq, he => by
    obtain ⟨hx, hU⟩ := List.nodup_cons.1 hU
    by_cases e : x = k
    · subst e
      have : U.countP q = U.countP p := List.countP_congr fun y hy => by rw [he y (fun e => hx (e ▸ hy))]
      simp [hp, hq, this]
    · have hk' : k ∈ U := (List.mem_cons.1 hk).resolve_left (fun h => e h.symm)
      have := countP_step hU hk' hp hq he
      simp only [List.countP_cons, he x e, this]; omega
theorem nodup_over : ∀ l : List α, ∃ U : List α, U.Nodup ∧ ∀ x ∈ l, x ∈ U
  | [] => ⟨[], List.nodup_nil, fun x h => h⟩
  | y :: l => by
    obtain ⟨U, hU, h⟩ := nodup_over l
    by_cases e : y ∈ U
    · exact ⟨U, hU, fun x hx => (List.mem_cons.1 hx).elim (fun e' => e' ▸ e) (h x)⟩
    · exact ⟨y :: U, List.nodup_cons.2 ⟨e, hU⟩, fun x hx => (List.mem_cons.1 hx).elim (fun e' => e' ▸ List.mem_cons_self ..) fun h' => List.mem_cons_of_mem _ (h x h')⟩
theorem countP_sub {p : α → Bool} : ∀ {l m : List α}, l.Nodup → (∀ x ∈ l, x ∈ m) → l.countP p ≤ m.countP p
  | [], m, _, _ => by simp
  | x :: l, m, hl, h => by
    obtain ⟨hx, hl⟩ := List.nodup_cons.1 hl
    have hm := List.perm_cons_erase (h x (List.mem_cons_self ..))
    have := countP_sub (p := p) (m := m.erase x) hl fun y hy => (List.mem_erase_of_ne (fun e : y = x => hx (by rw [← e]; exact hy))).2 (h y (List.mem_cons_of_mem _ hy))
    rw [hm.countP_eq p]
    simp only [List.countP_cons]; omega
/-- What came, each once. -/
noncomputable def D (l : List α) : List α := l.foldl (fun d x => if x ∈ d then d else d ++ [x]) []
theorem D_snoc {l : List α} {x : α} : D (l ++ [x]) = if x ∈ D l then D l else D l ++ [x] := by
  unfold D; rw [List.foldl_append]; rfl
theorem snoc_ind {P : List α → Prop} (h0 : P []) (h1 : ∀ l x, P l → P (l ++ [x])) (l : List α) : P l := by
  have : ∀ n (l : List α), l.length = n → P l := by
    intro n
    induction n with
    | zero => intro l hl; rw [List.length_eq_zero_iff.1 hl]; exact h0
    | succ n ih =>
      intro l hl
      have hne : l ≠ [] := by intro e; subst e; simp at hl
      rw [← List.dropLast_concat_getLast hne]
      exact h1 _ _ (ih _ (by simp [hl]))
  exact this _ l rfl
theorem D_mem {l : List α} {y : α} : y ∈ D l ↔ y ∈ l := by
  refine snoc_ind (P := fun l => y ∈ D l ↔ y ∈ l) (by simp [D]) (fun l x ih => ?_) l
  rw [D_snoc, List.mem_append, ← ih, List.mem_singleton]
  split
  · rename_i h; exact ⟨.inl, fun h' => h'.elim id fun e => e ▸ h⟩
  · rw [List.mem_append, List.mem_singleton]
theorem D_nodup {l : List α} : (D l).Nodup := by
  refine snoc_ind (P := fun l => (D l).Nodup) (by simp [D]) (fun l x ih => ?_) l
  rw [D_snoc]
  split
  · exact ih
  · rename_i h
    rw [List.nodup_append]
    exact ⟨ih, by simp, fun a ha b hb => by simp at hb; subst hb; exact fun e => h (e ▸ ha)⟩
/-- How many contents a key has. -/
noncomputable def many (l : List (α × β)) (k : α) : Nat := (D l).countP fun x => decide (x.1 = k)
/-- How many keys have two contents. -/
noncomputable def two (l : List (α × β)) : Nat := l.length.rec 0 fun i n => match l[i]? with
  | none => n
  | some x => if x ∈ l.take i then n else if many (l.take i) x.1 + 1 = 2 then n + 1 else n
noncomputable def twoL (l : List (α × β)) (i : Nat) : Nat := Nat.rec 0 (fun i n => match l[i]? with
  | none => n
  | some x => if x ∈ l.take i then n else if many (l.take i) x.1 + 1 = 2 then n + 1 else n) i
theorem twoL_next {l : List (α × β)} {i : Nat} {x : α × β} (h : l[i]? = some x) : twoL l (i + 1) = if x ∈ l.take i then twoL l i else if many (l.take i) x.1 + 1 = 2 then twoL l i + 1 else twoL l i := by
  show (match l[i]? with
    | none => twoL l i
    | some x => if x ∈ l.take i then twoL l i else if many (l.take i) x.1 + 1 = 2 then twoL l i + 1 else twoL l i) = _
  rw [h]
theorem many_snoc {l : List (α × β)} {x : α × β} {k : α} : many (l ++ [x]) k = if x ∈ l then many l k else many l k + if x.1 = k then 1 else 0 := by
  unfold many
  rw [D_snoc]
  by_cases h : x ∈ l
  · rw [if_pos (D_mem.2 h), if_pos h]
  · rw [if_neg (fun h' => h (D_mem.1 h')), if_neg h, List.countP_append]
    simp [List.countP_cons]
/-- The keys with two contents, among any that hold all keys. -/
theorem twoL_eq {l : List (α × β)} {U : List α} (hU : U.Nodup) (h : ∀ x ∈ l, x.1 ∈ U) : ∀ i ≤ l.length, twoL l i = U.countP fun k => decide (2 ≤ many (l.take i) k)
  | 0, _ => by
    have : (U.countP fun k => decide (2 ≤ many (l.take 0) k)) = 0 := List.countP_eq_zero.2 fun k _ => by simp [many, D]
    rw [this]; rfl
  | i + 1, hi => by
    have ih := twoL_eq hU h i (by omega)
    obtain ⟨x, hx⟩ : ∃ x, l[i]? = some x := ⟨l[i], List.getElem?_eq_getElem (by omega)⟩
    have hm : l.take (i + 1) = l.take i ++ [x] := by rw [List.take_add_one, hx]; rfl
    rw [twoL_next hx, hm]
    by_cases e : x ∈ l.take i
    · rw [if_pos e, ih]
      refine List.countP_congr fun k _ => ?_
      rw [many_snoc, if_pos e]
    · rw [if_neg e]
      have hms : ∀ k, many (l.take i ++ [x]) k = many (l.take i) k + if x.1 = k then 1 else 0 := fun k => by rw [many_snoc, if_neg e]
      by_cases e2 : many (l.take i) x.1 + 1 = 2
      · rw [if_pos e2, ih]
        symm
        refine countP_step (k := x.1) hU (h x (List.mem_of_getElem? hx)) ?_ ?_ fun y hy => ?_
        · simp; omega
        · rw [hms, if_pos rfl]; simp; omega
        · rw [hms, if_neg (fun e => hy e.symm)]; rfl
      · rw [if_neg e2, ih]
        refine List.countP_congr fun k _ => ?_
        rw [hms]
        by_cases ek : x.1 = k
        · subst ek; rw [if_pos rfl]; simp; omega
        · rw [if_neg ek]; rfl
noncomputable def twos (l : List (α × β)) : Nat := twoL l l.length
theorem many_mono {l m : List (α × β)} (h : ∀ x ∈ l, x ∈ m) (k : α) : many l k ≤ many m k := countP_sub D_nodup fun x hx => D_mem.2 (h x (D_mem.1 hx))
theorem twos_mono {l m : List (α × β)} (h : ∀ x ∈ l, x ∈ m) : twos l ≤ twos m := by
  obtain ⟨U, hU, hm⟩ := nodup_over (m.map (·.1))
  have h1 : ∀ x ∈ m, x.1 ∈ U := fun x hx => hm _ (List.mem_map_of_mem hx)
  unfold twos
  rw [twoL_eq hU (fun x hx => h1 x (h x hx)) _ (Nat.le_refl _), twoL_eq hU h1 _ (Nat.le_refl _), List.take_length, List.take_length]
  refine List.countP_mono_left fun k _ hk => ?_
  have := many_mono h k
  simp at hk ⊢; omega
theorem twos_same {l m : List (α × β)} (h : ∀ x, x ∈ l ↔ x ∈ m) : twos l = twos m := Nat.le_antisymm (twos_mono fun x hx => (h x).1 hx) (twos_mono fun x hx => (h x).2 hx)
end Go.Aff.L32

/- Layer 11, plainly: stores of blobs. -/
namespace Go.Aff.L10
open Go.Proofs Go.Aff Go.Aff.L01 Classical
set_option linter.unusedVariables false
set_option linter.unusedSimpArgs false
def Blob.Rt (b : Blob) : Prop := 0 ≤ b.owner ∧ b.owner < 8 ∧ 0 ≤ b.num ∧ b.num ≤ 1099511627776 ∧ b.cipher.length ≤ 4096
noncomputable section
def isB (o n : Int) (b : Blob) : Bool := decide (b.owner = o ∧ b.num = n)
def bfind (B : List Blob) (o n : Int) : Option Nat := B.findIdx? (isB o n)
def usedN (B : List Blob) (o : Int) : Nat := B.countP fun b => decide (b.owner = o)
def lenOf (o : Int) (b : Blob) : Nat := if b.owner = o then b.cipher.length else 0
def usedB (B : List Blob) (o : Int) : Nat := (B.map (lenOf o)).sum
def bput (B : List Blob) (b : Blob) : List Blob × Int :=
  if ¬ b.Rt then (B, 2) else match bfind B b.owner b.num with
  | some i => if B[i]? = some b then (B, 0) else (B, 10)
  | none => if 256 ≤ usedN B b.owner ∨ 32768 < usedB B b.owner + b.cipher.length then (B, 11) else (B ++ [b], 0)
def bprune1 (B : List Blob) (o n : Int) : List Blob × Nat := match bfind B o n with
  | some i => (B.eraseIdx i, 1)
  | none => (B, 0)
def bprune (B : List Blob) (o : Int) (l : List Int) : List Blob × Nat := l.foldl (fun s n => ((bprune1 s.1 o n).1, s.2 + (bprune1 s.1 o n).2)) (B, 0)
end
theorem bfind_some {B : List Blob} {o n : Int} {i : Nat} (h : bfind B o n = some i) : ∃ b, B[i]? = some b ∧ b.owner = o ∧ b.num = n := by
  unfold bfind at h
  obtain ⟨hi, h1, _⟩ := List.findIdx?_eq_some_iff_getElem.1 h
  have := of_decide_eq_true h1
  exact ⟨B[i], List.getElem?_eq_getElem hi, this.1, this.2⟩
theorem bfind_none {B : List Blob} {o n : Int} (h : bfind B o n = none) : ∀ b ∈ B, ¬ (b.owner = o ∧ b.num = n) := by
  unfold bfind at h
  intro b hb hh
  have := List.findIdx?_eq_none_iff.1 h b hb
  simp [isB, hh] at this
theorem usedN_app {A B : List Blob} {o : Int} : usedN (A ++ B) o = usedN A o + usedN B o := by simp [usedN, List.countP_append]
theorem usedB_app {A B : List Blob} {o : Int} : usedB (A ++ B) o = usedB A o + usedB B o := by simp [usedB]
theorem usedN_perm {A B : List Blob} (h : A.Perm B) {o : Int} : usedN A o = usedN B o := h.countP_eq _
theorem usedB_perm {A B : List Blob} (h : A.Perm B) {o : Int} : usedB A o = usedB B o := (h.map _).sum_nat
theorem erase_split {B : List Blob} {i : Nat} {b : Blob} (h : B[i]? = some b) : B = B.take i ++ b :: B.drop (i + 1) ∧ B.eraseIdx i = B.take i ++ B.drop (i + 1) := by
  have hi := (List.getElem?_eq_some_iff.1 h).1
  have hb := (List.getElem?_eq_some_iff.1 h).2
  refine ⟨?_, List.eraseIdx_eq_take_drop_succ ..⟩
  rw [← hb, ← List.drop_eq_getElem_cons hi, List.take_append_drop]
/-- What is so of every store. -/
structure BOk (B : List Blob) : Prop where
  rt : ∀ b ∈ B, b.Rt
  nd : ∀ (i j : Nat) a b, B[i]? = some a → B[j]? = some b → a.owner = b.owner → a.num = b.num → i = j
  n : ∀ o, usedN B o ≤ 256
  b : ∀ o, usedB B o ≤ 32768
theorem BOk.nil : BOk [] := ⟨by simp, by simp, by simp [usedN], by simp [usedB]⟩
theorem count8 : ∀ {B : List Blob}, (∀ b ∈ B, b.Rt) → B.length = usedN B 0 + usedN B 1 + usedN B 2 + usedN B 3 + usedN B 4 + usedN B 5 + usedN B 6 + usedN B 7
  | [], _ => rfl
  | b :: B, h => by
    have ih := count8 (B := B) fun x hx => h x (List.mem_cons_of_mem _ hx)
    obtain ⟨h0, h1, _⟩ := h b (List.mem_cons_self ..)
    have c : ∀ o, usedN (b :: B) o = usedN B o + if b.owner = o then 1 else 0 := fun o => by simp [usedN, List.countP_cons]
    simp only [c, List.length_cons, ih]
    have : b.owner = 0 ∨ b.owner = 1 ∨ b.owner = 2 ∨ b.owner = 3 ∨ b.owner = 4 ∨ b.owner = 5 ∨ b.owner = 6 ∨ b.owner = 7 := by omega
    rcases this with e | e | e | e | e | e | e | e <;> simp [e] <;> omega
theorem BOk.len {B : List Blob} (h : BOk B) : B.length ≤ 2048 := by
  have := count8 h.rt
  have := h.n 0; have := h.n 1; have := h.n 2; have := h.n 3; have := h.n 4; have := h.n 5; have := h.n 6; have := h.n 7
  omega
theorem BOk.find {B : List Blob} (h : BOk B) {i : Nat} {b : Blob} (hb : B[i]? = some b) : bfind B b.owner b.num = some i := by
  cases hf : bfind B b.owner b.num with
  | none => exact absurd ⟨rfl, rfl⟩ (bfind_none hf b (List.mem_of_getElem? hb))
  | some k =>
    obtain ⟨c, hc, h1, h2⟩ := bfind_some hf
    rw [h.nd k i c b hc hb h1 h2]
theorem BOk.put {B : List Blob} (h : BOk B) (b : Blob) : BOk (bput B b).1 := by
  unfold bput
  split
  · exact h
  · rename_i hr
    have hr : b.Rt := Classical.not_not.1 hr
    split
    · split <;> exact h
    · rename_i hf
      split
      · exact h
      · rename_i hroom
        have hn : ∀ o, usedN [b] o = if b.owner = o then 1 else 0 := fun o => by simp [usedN, List.countP_cons]
        have hb : ∀ o, usedB [b] o = if b.owner = o then b.cipher.length else 0 := fun o => by simp [usedB, lenOf]
        refine ⟨fun x hx => ?_, fun i j x y hx hy ho hnu => ?_, fun o => ?_, fun o => ?_⟩
        · rcases List.mem_append.1 hx with hx | hx
          · exact h.rt x hx
          · simp at hx; subst hx; exact hr
        · rw [List.getElem?_append] at hx hy
          split at hx
          · split at hy
            · exact h.nd i j x y hx hy ho hnu
            · have e : y = b := by
                have hj : j - B.length = 0 := by
                  have := (List.getElem?_eq_some_iff.1 hy).1; simp at this; omega
                rw [hj] at hy; simp at hy; exact hy.symm
              subst e
              exact absurd ⟨ho, hnu⟩ (bfind_none hf x (List.mem_of_getElem? hx))
          · rename_i hi
            have hi0 : i - B.length = 0 := by have := (List.getElem?_eq_some_iff.1 hx).1; simp at this; omega
            rw [hi0] at hx; simp at hx; subst hx
            split at hy
            · exact absurd ⟨ho.symm, hnu.symm⟩ (bfind_none hf y (List.mem_of_getElem? hy))
            · rename_i hj
              have hj0 : j - B.length = 0 := by have := (List.getElem?_eq_some_iff.1 hy).1; simp at this; omega
              omega
        · rw [usedN_app, hn]
          have := h.n o
          split
          · rename_i e; subst e; omega
          · omega
        · rw [usedB_app, hb]
          have := h.b o
          split
          · rename_i e; subst e; omega
          · omega
theorem usedN_erase {B : List Blob} {i : Nat} {b : Blob} (h : B[i]? = some b) {o : Int} : usedN B o = usedN (B.eraseIdx i) o + if b.owner = o then 1 else 0 := by
  obtain ⟨h1, h2⟩ := erase_split h
  rw [h2]
  have e : usedN B o = usedN (B.take i ++ b :: B.drop (i + 1)) o := congrArg (usedN · o) h1
  rw [e, usedN_app, usedN_app]
  simp [usedN, List.countP_cons]; omega
theorem usedB_erase {B : List Blob} {i : Nat} {b : Blob} (h : B[i]? = some b) {o : Int} : usedB B o = usedB (B.eraseIdx i) o + lenOf o b := by
  obtain ⟨h1, h2⟩ := erase_split h
  rw [h2]
  have e : usedB B o = usedB (B.take i ++ b :: B.drop (i + 1)) o := congrArg (usedB · o) h1
  rw [e, usedB_app, usedB_app]
  simp [usedB]; omega
theorem BOk.erase {B : List Blob} (h : BOk B) {i : Nat} {b : Blob} (hb : B[i]? = some b) : BOk (B.eraseIdx i) := by
  refine ⟨fun x hx => h.rt x (List.mem_of_mem_eraseIdx hx), fun p q x y hx hy ho hn => ?_, fun o => ?_, fun o => ?_⟩
  · rw [List.getElem?_eraseIdx] at hx hy
    split at hx <;> split at hy
    · exact h.nd p q x y hx hy ho hn
    · have := h.nd p (q + 1) x y hx hy ho hn; omega
    · have := h.nd (p + 1) q x y hx hy ho hn; omega
    · have := h.nd (p + 1) (q + 1) x y hx hy ho hn; omega
  · have := usedN_erase hb (o := o); have := h.n o; omega
  · have := usedB_erase hb (o := o); have := h.b o; omega
theorem BOk.prune1 {B : List Blob} (h : BOk B) (o n : Int) : BOk (bprune1 B o n).1 := by
  unfold bprune1
  split
  · rename_i i hf
    obtain ⟨b, hb, _⟩ := bfind_some hf
    exact h.erase hb
  · exact h
theorem bprune_snoc {B : List Blob} {o : Int} {l : List Int} {n : Int} : bprune B o (l ++ [n]) = ((bprune1 (bprune B o l).1 o n).1, (bprune B o l).2 + (bprune1 (bprune B o l).1 o n).2) := by
  unfold bprune; rw [List.foldl_append]; rfl
theorem bprune_next {B : List Blob} {o : Int} {l : List Int} {i : Nat} {n : Int} (h : l[i]? = some n) : bprune B o (l.take (i + 1)) = ((bprune1 (bprune B o (l.take i)).1 o n).1, (bprune B o (l.take i)).2 + (bprune1 (bprune B o (l.take i)).1 o n).2) := by
  rw [List.take_add_one, h]; exact bprune_snoc
theorem BOk.prune_take {B : List Blob} (h : BOk B) (o : Int) (l : List Int) : ∀ i, i ≤ l.length → BOk (bprune B o (l.take i)).1
  | 0, _ => h
  | i + 1, hi => by
    have hx : l[i]? = some l[i] := List.getElem?_eq_getElem (by omega)
    rw [bprune_next hx]
    exact (BOk.prune_take h o l i (by omega)).prune1 _ _
theorem BOk.prune {B : List Blob} (h : BOk B) (o : Int) (l : List Int) : BOk (bprune B o l).1 := by
  have := h.prune_take o l l.length (Nat.le_refl _)
  rwa [List.take_length] at this
theorem prune_le {B : List Blob} {o : Int} {l : List Int} : ∀ i, i ≤ l.length → (bprune B o (l.take i)).2 ≤ i
  | 0, _ => Nat.le_refl _
  | i + 1, hi => by
    have hx : l[i]? = some l[i] := List.getElem?_eq_getElem (by omega)
    have := prune_le (B := B) (o := o) i (show i ≤ l.length by omega)
    rw [bprune_next hx]
    have h1 : ∀ C : List Blob, (bprune1 C o l[i]).2 ≤ 1 := fun C => by unfold bprune1; split <;> simp
    have := h1 (bprune B o (l.take i)).1
    simp only; omega
/-! Entries met in any order. -/
theorem perm_of_mem {α : Type} : ∀ {l m : List α}, l.Nodup → m.Nodup → (∀ x, x ∈ l ↔ x ∈ m) → l.Perm m
  | [], m, _, _, h => by
    cases m with
    | nil => exact List.Perm.refl _
    | cons a m => have := (h a).2 (List.mem_cons_self ..); cases this
  | a :: l, m, hl, hm, h => by
    obtain ⟨ha, hl⟩ := List.nodup_cons.1 hl
    have ham := (h a).1 (List.mem_cons_self ..)
    have hp := List.perm_cons_erase ham
    refine (List.Perm.cons a (perm_of_mem hl (hm.erase a) fun x => ?_)).trans hp.symm
    rw [hm.mem_erase_iff]
    constructor
    · intro hx; exact ⟨fun e => ha (e ▸ hx), (h x).1 (List.mem_cons_of_mem _ hx)⟩
    · rintro ⟨hne, hx⟩
      exact (List.mem_cons.1 ((h x).2 hx)).resolve_left hne
/-- Entries that were met: each once, all of them of the map. -/
structure Met (E D : List (Nat × Blob)) : Prop where
  sub : ∀ e ∈ D, e ∈ E
  nd : (D.map (·.1)).Nodup
theorem nodup_of_map {α β : Type} {f : α → β} : ∀ {l : List α}, (l.map f).Nodup → l.Nodup
  | [], _ => List.nodup_nil
  | a :: l, h => by
    obtain ⟨h1, h2⟩ := List.nodup_cons.1 (show (f a :: l.map f).Nodup from h)
    exact List.nodup_cons.2 ⟨fun hm => h1 (List.mem_map_of_mem hm), nodup_of_map h2⟩
theorem Met.len {E D : List (Nat × Blob)} (h : Met E D) : D.length ≤ E.length := by
  have := L32.countP_sub (p := fun _ => true) (nodup_of_map h.nd) h.sub
  simpa using this
theorem Met.add {E D : List (Nat × Blob)} (h : Met E D) {e : Nat × Blob} (he : e ∈ E) (hn : ¬ e.1 ∈ D.map (·.1)) : Met E (D ++ [e]) := by
  refine ⟨fun x hx => ?_, ?_⟩
  · rcases List.mem_append.1 hx with hx | hx
    · exact h.sub x hx
    · simp at hx; subst hx; exact he
  · rw [List.map_append, List.nodup_append]
    exact ⟨h.nd, by simp, fun a ha b hb => by simp at hb; subst hb; exact fun e2 => hn (e2 ▸ ha)⟩
theorem Met.all {E D : List (Nat × Blob)} (h : Met E D) (hE : (E.map (·.1)).Nodup) (ha : ∀ e ∈ E, e.1 ∈ D.map (·.1)) : D.Perm E := by
  refine perm_of_mem (nodup_of_map h.nd) (nodup_of_map hE) fun x => ⟨h.sub x, fun hx => ?_⟩
  obtain ⟨d, hd, e⟩ := List.mem_map.1 (ha x hx)
  have hd' := h.sub d hd
  obtain ⟨i, hi⟩ := List.mem_iff_getElem?.1 hd'
  obtain ⟨k, hk⟩ := List.mem_iff_getElem?.1 hx
  have h1 : (E.map (·.1))[i]? = some d.1 := by simp [hi]
  have h2 : (E.map (·.1))[k]? = some d.1 := by simp [hk, e]
  have : i = k := (List.getElem?_inj (List.getElem?_eq_some_iff.1 h1).1 hE).1 (by rw [h1, h2])
  subst this
  rw [hi] at hk; cases hk; exact hd
end Go.Aff.L10

