import Derived.Test.YtikbkaedemmpmaaGreatG14
import Derived.Test.YtikbkaedemmpmaaGreatG10
import Derived.Test.YtikbkaedemmpmaaGreatG8
import Derived.Test.YtikbkaedemmpmaaGreatG1
import Derived.Test.YtikbkaedemmpmaaGreatG7
import Derived.Test.YtikbkaedemmpmaaGreatG12

set_option linter.unusedSimpArgs false
set_option linter.unusedVariables false

namespace Go.Aff.L10
open Go.Proofs Go.Aff Go.Aff.L01 Classical
set_option maxRecDepth 20000

def rdAt (x y : List UInt8) : Rdr := ⟨x ++ y, x.length, 0⟩
theorem int_back {x y : List UInt8} {n : Int} (h0 : -9223372036854775808 ≤ n) (h1 : n ≤ 9223372036854775807) : (rdAt x (numS n ++ y)).int = (n, rdAt (x ++ numS n) y) := by
  have h := num_back (x := x) (y := y) h0 h1
  have h2 : numR (x ++ (numS n ++ y)) (x.length : Int) = (n, ((x.length + (numS n).length : Nat) : Int), 0) := by
    rw [numR_nat (by simp)]; exact h
  simp only [rdAt, Rdr.int, h2]
  simp [List.append_assoc]
theorem rtext_back {x y t : List UInt8} (ht : t.length ≤ 16384) : (rdAt x (textS t ++ y)).text = (t, rdAt (x ++ textS t) y) := by
  have h := text_back (x := x) (y := y) (t := t) (by omega)
  have h2 : textR (x ++ (textS t ++ y)) (x.length : Int) = (t, ((x.length + (textS t).length : Nat) : Int), 0) := by
    rw [textR_nat (by simp)]; exact h
  simp only [rdAt, Rdr.text, h2]
  simp [List.append_assoc]
theorem digOf_l (d : Dig) : digOf d.l = (d, 0) := by unfold digOf; rw [dif_pos d.h]
theorem rdig_back {x y : List UInt8} {d : Dig} : (rdAt x (digS d ++ y)).dig = (d, rdAt (x ++ digS d) y) := by
  have h := rtext_back (x := x) (y := y) (t := d.l) (by rw [d.h]; omega)
  simp only [Rdr.dig, digS, h, digOf_l]
  simp
theorem rints_back {x y : List UInt8} {l : List Int} (h : InI l) (hl : ¬ 512 < l.length) : (rdAt x (laidAll numS l ++ y)).ints = (l, rdAt (x ++ laidAll numS l) y) := by
  have h2 := ints_back (x := x) (y := y) h hl
  simp only [rdAt, Rdr.ints, intsR, h2]
  simp [List.append_assoc]
def Rng (n : Int) : Prop := -9223372036854775808 ≤ n ∧ n ≤ 9223372036854775807
theorem int_back' {x y : List UInt8} {n : Int} (h : Rng n) : (rdAt x (numS n ++ y)).int = (n, rdAt (x ++ numS n) y) := int_back h.1 h.2
theorem pend_back {x y : List UInt8} {p : Pend} (hp : p.Ok) : (rdAt x (pendB p ++ y)).pend = (p, rdAt (x ++ pendB p) y) := by
  obtain ⟨h1, h2, h3, h4⟩ := hp
  simp only [In] at h1 h2 h3 h4
  have a1 : Rng p.client := ⟨by omega, by omega⟩
  have a2 : Rng p.num := ⟨by omega, by omega⟩
  have a3 : Rng p.kind := ⟨by omega, by omega⟩
  have a4 : Rng p.target := ⟨by omega, by omega⟩
  have e : pendB p ++ y = numS p.client ++ (numS p.num ++ (numS p.kind ++ (numS p.target ++ (digS p.asked ++ (digS p.proof ++ y))))) := by simp [pendB]
  rw [e]
  simp only [Rdr.pend, int_back' a1, int_back' a2, int_back' a3, int_back' a4, rdig_back]
  simp [pendB, List.append_assoc]
theorem pends_back : ∀ {l : List Pend} {x y : List UInt8}, (∀ p ∈ l, p.Ok) → Rdr.pends l.length (rdAt x (l.flatMap pendB ++ y)) = (l, rdAt (x ++ l.flatMap pendB) y)
  | [], x, y, _ => by simp [Rdr.pends]
  | p :: l, x, y, h => by
    have h1 := pend_back (x := x) (y := l.flatMap pendB ++ y) (h p (List.mem_cons_self ..))
    have h2 := pends_back (l := l) (x := x ++ pendB p) (y := y) (fun q hq => h q (List.mem_cons_of_mem _ hq))
    have e0 : (rdAt x ((p :: l).flatMap pendB ++ y)).e = 0 := rfl
    rw [List.length_cons, Rdr.pends, if_neg (by rw [e0]; decide)]
    rw [List.flatMap_cons, List.append_assoc, h1]
    simp only [h2]
    simp [List.append_assoc]
theorem rep_back {x y : List UInt8} {a : Rep} (hok : a.Ok) : (rdAt x (ansB a ++ y)).rep = (a, rdAt (x ++ ansB a) y) := by
  obtain ⟨hp, h1, h2, h3, h4, h5, h6, h7, h8⟩ := hok
  simp only [In, ViewOk] at h1 h2 h5 h6 h7
  have a1 : Rng a.num := ⟨by omega, by omega⟩
  have a2 : Rng a.last := ⟨by omega, by omega⟩
  have a3 : Rng (a.pending.length : Int) := ⟨by omega, by omega⟩
  have a4 : Rng a.vnum := ⟨by omega, by omega⟩
  have t1 : a.view.length ≤ 16384 := by omega
  have t2 : a.value.length ≤ 16384 := by omega
  have t3 : a.seen.length ≤ 16384 := by omega
  have hin : In 0 8 (a.pending.length : Int) := ⟨by omega, by omega⟩
  have e : ansB a ++ y = numS a.num ++ (numS a.last ++ (textS a.view ++ (digS a.commit ++ (numS (a.pending.length : Int) ++ (a.pending.flatMap pendB ++ (numS a.vnum ++ (textS a.value ++ (digS a.data ++ (textS a.seen ++ (digS a.seenTag ++ y)))))))))) := by simp [ansB]
  rw [e]
  have e0 : ∀ x y, (rdAt x y).e = 0 := fun _ _ => rfl
  simp only [Rdr.rep, Rdr.rep1, Rdr.rep2, int_back' a1, int_back' a2, int_back' a3, rtext_back t1, rdig_back, hin, not_true_eq_false, and_false, if_false, Int.toNat_natCast, pends_back hp, int_back' a4, rtext_back t2, rtext_back t3]
  simp [ansB, List.append_assoc, rep0]
theorem fields_back {m : Msg} (hok : m.Ok) {x y : List UInt8} : (rdAt x (m.rest ++ y)).fields (getM m.kind m.client) = (m, rdAt (x ++ m.rest) y) := by
  have hk := hok.kinds
  have ho := hok.2.2
  have hm : m = ⟨m.kind, m.client, m.sub, m.rep, m.view, m.by_, m.tag, m.own, m.blob, m.nums⟩ := rfl
  rcases hk with ⟨hq, hs⟩ | ⟨hq, hs⟩ | ⟨hq, hs⟩ | ⟨hq, hs⟩ | ⟨hq, hs⟩ | ⟨hq, hs⟩ | ⟨hq, hs⟩ | ⟨hq, hs⟩ | hq | ⟨hq, hs⟩ | hq
  all_goals
    simp only [Msg.own_, hq] at ho
    simp only [Msg.iff] at ho
    simp [msg0] at ho
    obtain ⟨_, ho⟩ := ho
  · obtain ⟨o1, o2, o3, o4⟩ := hs
    simp only [In] at o1 o2 o3
    have a1 : Rng m.sub.num := ⟨by omega, by omega⟩
    have a2 : Rng m.sub.kind := ⟨by omega, by omega⟩
    have a3 : Rng m.sub.target := ⟨by omega, by omega⟩
    have t1 : m.sub.value.length ≤ 16384 := by omega
    have e : m.rest ++ y = numS m.sub.num ++ (numS m.sub.kind ++ (numS m.sub.target ++ (textS m.sub.value ++ (digS m.sub.asked ++ (digS m.sub.data ++ (y)))))) := by simp [Msg.rest, hq, subB, blobB]
    rw [e]
    simp only [Rdr.fields, getM, hq, Int.reduceEq, if_true, if_false, or_self, or_true, true_or, false_or, or_false, int_back' a1, int_back' a2, int_back' a3, rtext_back t1, rdig_back]
    refine Prod.ext ?_ ?_
    · simp [Msg.iff, hq]; grind
    · simp [Msg.rest, hq, subB, blobB, List.append_assoc]
  · have h0 := hs
    have e : m.rest ++ y = ansB m.rep ++ (y) := by simp [Msg.rest, hq, subB, blobB]
    rw [e]
    simp only [Rdr.fields, getM, hq, Int.reduceEq, if_true, if_false, or_self, or_true, true_or, false_or, or_false, rep_back hs]
    refine Prod.ext ?_ ?_
    · simp [Msg.iff, hq]; grind
    · simp [Msg.rest, hq, subB, blobB, List.append_assoc]
  · obtain ⟨_, _, v1, _⟩ := hs
    have t1 : m.view.length ≤ 16384 := by omega
    have e : m.rest ++ y = textS m.view ++ (digS m.tag ++ (y)) := by simp [Msg.rest, hq, subB, blobB]
    rw [e]
    simp only [Rdr.fields, getM, hq, Int.reduceEq, if_true, if_false, or_self, or_true, true_or, false_or, or_false, rtext_back t1, rdig_back]
    refine Prod.ext ?_ ?_
    · simp [Msg.iff, hq]; grind
    · simp [Msg.rest, hq, subB, blobB, List.append_assoc]
  · obtain ⟨o1, o2, o3⟩ := hs
    simp only [In] at o1 o2
    have a1 : Rng m.blob.owner := ⟨by omega, by omega⟩
    have a2 : Rng m.blob.num := ⟨by omega, by omega⟩
    have t1 : m.blob.cipher.length ≤ 16384 := by omega
    have e : m.rest ++ y = numS m.blob.owner ++ (numS m.blob.num ++ (textS m.blob.cipher ++ (digS m.blob.tag ++ (y)))) := by simp [Msg.rest, hq, subB, blobB]
    rw [e]
    simp only [Rdr.fields, getM, hq, Int.reduceEq, if_true, if_false, or_self, or_true, true_or, false_or, or_false, int_back' a1, int_back' a2, rtext_back t1, rdig_back]
    refine Prod.ext ?_ ?_
    · simp [Msg.iff, hq]; grind
    · simp [Msg.rest, hq, subB, blobB, List.append_assoc]
  · have i1 := hs.in_
    have i2 : ¬ 512 < m.nums.length := by have := hs.2; simp only [In] at this; omega
    have e : m.rest ++ y = laidAll numS m.nums ++ (y) := by simp [Msg.rest, hq, subB, blobB]
    rw [e]
    simp only [Rdr.fields, getM, hq, Int.reduceEq, if_true, if_false, or_self, or_true, true_or, false_or, or_false, rints_back i1 i2]
    refine Prod.ext ?_ ?_
    · simp [Msg.iff, hq]; grind
    · simp [Msg.rest, hq, subB, blobB, List.append_assoc]
  · obtain ⟨o1, o2, o3⟩ := hs
    simp only [In] at o1 o2
    have a1 : Rng m.blob.owner := ⟨by omega, by omega⟩
    have a2 : Rng m.blob.num := ⟨by omega, by omega⟩
    have t1 : m.blob.cipher.length ≤ 16384 := by omega
    have e : m.rest ++ y = numS m.blob.owner ++ (numS m.blob.num ++ (textS m.blob.cipher ++ (digS m.blob.tag ++ (y)))) := by simp [Msg.rest, hq, subB, blobB]
    rw [e]
    simp only [Rdr.fields, getM, hq, Int.reduceEq, if_true, if_false, or_self, or_true, true_or, false_or, or_false, int_back' a1, int_back' a2, rtext_back t1, rdig_back]
    refine Prod.ext ?_ ?_
    · simp [Msg.iff, hq]; grind
    · simp [Msg.rest, hq, subB, blobB, List.append_assoc]
  · have i1 := hs.in_
    have i2 : ¬ 512 < m.nums.length := by have := hs.2; simp only [In] at this; omega
    have e : m.rest ++ y = laidAll numS m.nums ++ (y) := by simp [Msg.rest, hq, subB, blobB]
    rw [e]
    simp only [Rdr.fields, getM, hq, Int.reduceEq, if_true, if_false, or_self, or_true, true_or, false_or, or_false, rints_back i1 i2]
    refine Prod.ext ?_ ?_
    · simp [Msg.iff, hq]; grind
    · simp [Msg.rest, hq, subB, blobB, List.append_assoc]
  · have i1 := hs.in_
    have i2 : ¬ 512 < m.nums.length := by have := hs.2; simp only [In] at this; omega
    have e : m.rest ++ y = laidAll numS m.nums ++ (y) := by simp [Msg.rest, hq, subB, blobB]
    rw [e]
    simp only [Rdr.fields, getM, hq, Int.reduceEq, if_true, if_false, or_self, or_true, true_or, false_or, or_false, rints_back i1 i2]
    refine Prod.ext ?_ ?_
    · simp [Msg.iff, hq]; grind
    · simp [Msg.rest, hq, subB, blobB, List.append_assoc]
  · have h0 := hq
    have e : m.rest ++ y = y := by simp [Msg.rest, hq, subB, blobB]
    rw [e]
    simp only [Rdr.fields, getM, hq, Int.reduceEq, if_true, if_false, or_self, or_true, true_or, false_or, or_false, rdig_back]
    refine Prod.ext ?_ ?_
    · simp [Msg.iff, hq]; grind
    · simp [Msg.rest, hq, subB, blobB, List.append_assoc]
  · obtain ⟨o1, _, _, v1, _⟩ := hs
    simp only [In] at o1
    have a1 : Rng m.by_ := ⟨by omega, by omega⟩
    have t1 : m.view.length ≤ 16384 := by omega
    have e : m.rest ++ y = numS m.by_ ++ (textS m.view ++ (digS m.tag ++ (digS m.own ++ (y)))) := by simp [Msg.rest, hq, subB, blobB]
    rw [e]
    simp only [Rdr.fields, getM, hq, Int.reduceEq, if_true, if_false, or_self, or_true, true_or, false_or, or_false, int_back' a1, rtext_back t1, rdig_back]
    refine Prod.ext ?_ ?_
    · simp [Msg.iff, hq]; grind
    · simp [Msg.rest, hq, subB, blobB, List.append_assoc]
  · have h0 := hq
    have e : m.rest ++ y = digS m.own ++ (y) := by simp [Msg.rest, hq, subB, blobB]
    rw [e]
    simp only [Rdr.fields, getM, hq, Int.reduceEq, if_true, if_false, or_self, or_true, true_or, false_or, or_false, rdig_back]
    refine Prod.ext ?_ ?_
    · simp [Msg.iff, hq]; grind
    · simp [Msg.rest, hq, subB, blobB, List.append_assoc]
theorem get_back {m : Msg} (hok : m.Ok) : getR m.bytes = (m, 0) := by
  have hk := hok.kinds
  have hc := hok.2.1
  simp only [In] at hc
  have hkk : 1 ≤ m.kind ∧ m.kind ≤ 11 := by omega
  have a1 : Rng m.kind := ⟨by omega, by omega⟩
  have a2 : Rng m.client := ⟨by omega, by omega⟩
  have hin : In 1 11 m.kind := hkk
  have e0 : ∀ x y, (rdAt x y).e = 0 := fun _ _ => rfl
  have hA : getA m.bytes = (m.kind, rdAt (numS m.kind) ((if m.kind = 2 ∨ m.kind = 4 ∨ m.kind = 6 then [] else [m.client].flatMap numS) ++ m.rest)) := by
    have e : (⟨m.bytes, 0, 0⟩ : Rdr) = rdAt [] (numS m.kind ++ ((if m.kind = 2 ∨ m.kind = 4 ∨ m.kind = 6 then [] else [m.client].flatMap numS) ++ m.rest)) := by
      simp [rdAt, Msg.bytes]
    simp only [getA, e, int_back' a1, hin, not_true_eq_false, and_false, if_false, List.nil_append]
  have hB : ∃ x, getB (getA m.bytes) = (m.client, rdAt x m.rest) ∧ x ++ m.rest = m.bytes := by
    rw [hA]
    unfold getB
    by_cases h : m.kind = 2 ∨ m.kind = 4 ∨ m.kind = 6
    · rw [if_pos h, if_pos h]
      have h0 : m.client = 0 := by
        have ho := hok.2.2
        rcases h with h | h | h <;> simp [Msg.own_, h, Msg.iff] at ho <;> omega
      exact ⟨numS m.kind, by rw [h0]; simp, by simp [Msg.bytes, h]⟩
    · rw [if_neg h, if_neg h]
      simp only [List.flatMap_cons, List.flatMap_nil, List.append_nil, int_back' a2]
      exact ⟨_, rfl, by simp [Msg.bytes, h]⟩
  obtain ⟨x, hB, hx⟩ := hB
  have hC : getC m.bytes = (m, rdAt (x ++ m.rest) []) := by
    have h := fields_back hok (x := x) (y := [])
    rw [List.append_nil] at h
    simp only [getC, hB]
    rw [hA]; exact h
  have h1 : ¬ (((x ++ m.rest).length : Int) < (m.bytes.length : Int) ∨ ¬ m.Ok) := by rw [hx]; simp [hok]
  simp only [getR, hC, e0, ne_eq, not_true_eq_false, if_false]
  rw [if_neg (by simpa [rdAt] using h1)]
structure BKey where
  owner : Int
  num : Int
def bkey0 : BKey := ⟨0, 0⟩
def bkeyPs (x : BKey) : List AV := [.int .i64 x.owner, .int .i64 x.num]
theorem bkeyPs_0 {x : BKey} : (bkeyPs x)[0]? = some (.int .i64 x.owner) := nr rfl
theorem bkeyAt_0 {x : BKey} {v : AV} : partIs Tryz.prog 107 (bkeyPs x) 0 v = fits Tryz.prog 3 v := by rw [partIs_of (o := 0) (T := 3) (by kernel_rfl)]; simp [bkeyPs, AV.sizes, AV.size]
theorem bkeySet_0 {x : BKey} {y : Int} : (bkeyPs x).set 0 (.int .i64 y) = bkeyPs { x with owner := y } := nr rfl
theorem bkeyPs_1 {x : BKey} : (bkeyPs x)[1]? = some (.int .i64 x.num) := nr rfl
theorem bkeyAt_1 {x : BKey} {v : AV} : partIs Tryz.prog 107 (bkeyPs x) 1 v = fits Tryz.prog 3 v := by rw [partIs_of (o := 1) (T := 3) (by kernel_rfl)]; simp [bkeyPs, AV.sizes, AV.size]
theorem bkeySet_1 {x : BKey} {y : Int} : (bkeyPs x).set 1 (.int .i64 y) = bkeyPs { x with num := y } := nr rfl
theorem sizes_bkey {x : BKey} : AV.sizes (bkeyPs x) = 2 := by simp [bkeyPs, AV.sizes, AV.size]
theorem shapes_bkey {x : BKey} : AV.shapes (bkeyPs x) = [.leaf, .leaf] := by simp [bkeyPs, AV.shapes, AV.shape]
theorem fits_bkey {v : AV} : fits Tryz.prog 107 v = (v.isAgg = true ∧ v.size = 2) := fits_agg (by kernel_rfl) (by kernel_rfl)
theorem zero_bkey : zeroA Tryz.prog 12 107 = .agg (bkeyPs bkey0) := by kernel_rfl
theorem zt_bkey : ZeroOf Tryz.prog 107 (.agg (bkeyPs bkey0)) = True := eq_true ⟨_, _, rfl, rfl, rfl, rfl, rfl⟩
theorem built_bkey : Built Tryz.prog 107 = True := eq_true (by unfold Built; rw [Tryz.underlying107]; decide +kernel)
structure RSt where
  l : List Blob
def rst0 : RSt := ⟨[]⟩
def rstPs (t0 : Tk) (x : RSt) : List AV := [.slice t0 (x.l.map blobV)]
theorem rstPs_0 {t0 : Tk} {x : RSt} : (rstPs t0 x)[0]? = some (.slice t0 (x.l.map blobV)) := nr rfl
theorem rstAt_0 {t0 : Tk} {x : RSt} {v : AV} : partIs Tryz.prog 76 (rstPs t0 x) 0 v = fits Tryz.prog 74 v := by rw [partIs_of (o := 0) (T := 74) (by kernel_rfl)]; simp [rstPs, AV.sizes, AV.size]
theorem rstSet_0 {t0 : Tk} {u0 : Tk} {x : RSt} {y : List Blob} : (rstPs t0 x).set 0 (.slice u0 (y.map blobV)) = rstPs u0 { x with l := y } := nr rfl
theorem zero_rst : zeroA Tryz.prog 12 76 = .agg (rstPs .full rst0) := by kernel_rfl
theorem zt_rst : ZeroOf Tryz.prog 76 (.agg (rstPs .full rst0)) = True := eq_true ⟨_, _, rfl, rfl, rfl, rfl, rfl⟩
theorem fits74b {v : AV} : fits Tryz.prog 74 v = (v.isAgg = false ∧ v.size = 1) := fits_leaf (by kernel_rfl) (by kernel_rfl)
theorem built_rst : Built Tryz.prog 76 = True := eq_true (by unfold Built; rw [Tryz.underlying76]; decide +kernel)
theorem fits58 {o : Option Nat} : fits Tryz.prog 103 (.mp o) = True := by rw [fits_leaf (P := Tryz.prog) (t := 103) (by kernel_rfl) (by kernel_rfl)]; simp [AV.isAgg, AV.size]
theorem stAt {x y : Option Nat} : partIs Tryz.prog 105 [.mp x] 0 (.mp y) = True := by rw [partIs_of (o := 0) (T := 103) (by kernel_rfl)]; simp [AV.sizes, AV.size, fits58]
theorem zero60 : zeroA Tryz.prog 12 105 = .agg [.mp none] := by kernel_rfl
theorem zt60 : ZeroOf Tryz.prog 105 (.agg [.mp none]) = True := eq_true ⟨_, _, rfl, rfl, rfl, rfl, rfl⟩
theorem built60 : Built Tryz.prog 105 = True := eq_true (by unfold Built; rw [Tryz.underlying105]; decide +kernel)
theorem shape_mp {o : Option Nat} : (AV.mp o).shape = .leaf := by simp [AV.shape]
theorem bkey_ok {a : BKey} : keyOk Tryz.prog 40 107 (.agg (bkeyPs a)) = true := by
  simp only [keyOk, Tryz.underlying107, bkeyPs, keyOks, Tryz.underlying3]
  kernel_rfl
theorem eq_bkey {a b : BKey} : eqA Tryz.prog 40 107 (.agg (bkeyPs a)) (.agg (bkeyPs b)) = some (decide (a = b)) := by
  have hs : Tryz.prog.stoodInHeld 107 = false := by kernel_rfl
  simp only [eqA, Tryz.underlying107, hs, if_true]
  unfold bkeyPs
  rw [eqAs_cons ⟨by decide, by simp [AV.sizes, AV.size], by simp [AV.sizes, AV.size], by kernel_rfl, by simp [AV.size]; kernel_rfl, by kernel_rfl, by simp [AV.size]; kernel_rfl⟩ eq_int3]
  refine (Classical.em (a.owner = b.owner)).elim (fun h0 => ?_) (fun h0 => by rw [if_neg (by simpa [dig_ext] using h0), decide_eq_false (fun e => h0 (congrArg BKey.owner e))])
  rw [if_pos (by simpa [dig_ext] using h0)]
  rw [eqAs_cons ⟨by decide, by simp [AV.sizes, AV.size], by simp [AV.sizes, AV.size], by kernel_rfl, by simp [AV.size]; kernel_rfl, by kernel_rfl, by simp [AV.size]; kernel_rfl⟩ eq_int3]
  refine (Classical.em (a.num = b.num)).elim (fun h1 => ?_) (fun h1 => by rw [if_neg (by simpa [dig_ext] using h1), decide_eq_false (fun e => h1 (congrArg BKey.num e))])
  rw [if_pos (by simpa [dig_ext] using h1)]
  rw [decide_eq_true (by cases a; cases b; simp_all)]; simp only [eqAs]
end Go.Aff.L10

namespace Go.Aff.L32
open Classical
variable {α β : Type}
theorem countP_sub {p : α → Bool} : ∀ {l m : List α}, l.Nodup → (∀ x ∈ l, x ∈ m) → l.countP p ≤ m.countP p
  | [], m, _, _ => by simp
  | x :: l, m, hl, h => by
    obtain ⟨hx, hl⟩ := List.nodup_cons.1 hl
    have hm := List.perm_cons_erase (h x (List.mem_cons_self ..))
    have := countP_sub (p := p) (m := m.erase x) hl fun y hy => (List.mem_erase_of_ne (fun e : y = x => hx (by rw [← e]; exact hy))).2 (h y (List.mem_cons_of_mem _ hy))
    rw [hm.countP_eq p]
    simp only [List.countP_cons]; omega
noncomputable def D (l : List α) : List α := l.foldl (fun d x => if x ∈ d then d else d ++ [x]) []
noncomputable def many (l : List (α × β)) (k : α) : Nat := (D l).countP fun x => decide (x.1 = k)
noncomputable def two (l : List (α × β)) : Nat := l.length.rec 0 fun i n => match l[i]? with
  | none => n
  | some x => if x ∈ l.take i then n else if many (l.take i) x.1 + 1 = 2 then n + 1 else n
end Go.Aff.L32

namespace Go.Aff.L10
open Go.Proofs Go.Aff Go.Aff.L01 Classical
def Blob.Rt (b : Blob) : Prop := 0 ≤ b.owner ∧ b.owner < 8 ∧ 0 ≤ b.num ∧ b.num ≤ 1099511627776 ∧ b.cipher.length ≤ 4096
noncomputable section
def isB (o n : Int) (b : Blob) : Bool := decide (b.owner = o ∧ b.num = n)
def bfind (B : List Blob) (o n : Int) : Option Nat := B.findIdx? (isB o n)
def usedN (B : List Blob) (o : Int) : Nat := B.countP fun b => decide (b.owner = o)
def lenOf (o : Int) (b : Blob) : Nat := if b.owner = o then b.cipher.length else 0
def usedB (B : List Blob) (o : Int) : Nat := (B.map (lenOf o)).sum
def bput (B : List Blob) (b : Blob) : List Blob × Int :=
  if ¬ b.Rt then (B, 2) else match bfind B b.owner b.num with
  | some i => if B[i]? = some b then (B, 0) else (B, 10)
  | none => if 256 ≤ usedN B b.owner ∨ 32768 < usedB B b.owner + b.cipher.length then (B, 11) else (B ++ [b], 0)
def bprune1 (B : List Blob) (o n : Int) : List Blob × Nat := match bfind B o n with
  | some i => (B.eraseIdx i, 1)
  | none => (B, 0)
def bprune (B : List Blob) (o : Int) (l : List Int) : List Blob × Nat := l.foldl (fun s n => ((bprune1 s.1 o n).1, s.2 + (bprune1 s.1 o n).2)) (B, 0)
end
theorem bfind_some {B : List Blob} {o n : Int} {i : Nat} (h : bfind B o n = some i) : ∃ b, B[i]? = some b ∧ b.owner = o ∧ b.num = n := by
  unfold bfind at h
  obtain ⟨hi, h1, _⟩ := List.findIdx?_eq_some_iff_getElem.1 h
  have := of_decide_eq_true h1
  exact ⟨B[i], List.getElem?_eq_getElem hi, this.1, this.2⟩
theorem bfind_none {B : List Blob} {o n : Int} (h : bfind B o n = none) : ∀ b ∈ B, ¬ (b.owner = o ∧ b.num = n) := by
  unfold bfind at h
  intro b hb hh
  have := List.findIdx?_eq_none_iff.1 h b hb
  simp [isB, hh] at this
theorem usedN_app {A B : List Blob} {o : Int} : usedN (A ++ B) o = usedN A o + usedN B o := by simp [usedN, List.countP_append]
theorem usedB_app {A B : List Blob} {o : Int} : usedB (A ++ B) o = usedB A o + usedB B o := by simp [usedB]
theorem usedN_perm {A B : List Blob} (h : A.Perm B) {o : Int} : usedN A o = usedN B o := h.countP_eq _
theorem usedB_perm {A B : List Blob} (h : A.Perm B) {o : Int} : usedB A o = usedB B o := (h.map _).sum_nat
theorem erase_split {B : List Blob} {i : Nat} {b : Blob} (h : B[i]? = some b) : B = B.take i ++ b :: B.drop (i + 1) ∧ B.eraseIdx i = B.take i ++ B.drop (i + 1) := by
  have hi := (List.getElem?_eq_some_iff.1 h).1
  have hb := (List.getElem?_eq_some_iff.1 h).2
  refine ⟨?_, List.eraseIdx_eq_take_drop_succ ..⟩
  rw [← hb, ← List.drop_eq_getElem_cons hi, List.take_append_drop]
structure BOk (B : List Blob) : Prop where
  rt : ∀ b ∈ B, b.Rt
  nd : ∀ (i j : Nat) a b, B[i]? = some a → B[j]? = some b → a.owner = b.owner → a.num = b.num → i = j
  n : ∀ o, usedN B o ≤ 256
  b : ∀ o, usedB B o ≤ 32768
theorem BOk.nil : BOk [] := ⟨by simp, by simp, by simp [usedN], by simp [usedB]⟩
theorem count8 : ∀ {B : List Blob}, (∀ b ∈ B, b.Rt) → B.length = usedN B 0 + usedN B 1 + usedN B 2 + usedN B 3 + usedN B 4 + usedN B 5 + usedN B 6 + usedN B 7
  | [], _ => rfl
  | b :: B, h => by
    have ih := count8 (B := B) fun x hx => h x (List.mem_cons_of_mem _ hx)
    obtain ⟨h0, h1, _⟩ := h b (List.mem_cons_self ..)
    have c : ∀ o, usedN (b :: B) o = usedN B o + if b.owner = o then 1 else 0 := fun o => by simp [usedN, List.countP_cons]
    simp only [c, List.length_cons, ih]
    have : b.owner = 0 ∨ b.owner = 1 ∨ b.owner = 2 ∨ b.owner = 3 ∨ b.owner = 4 ∨ b.owner = 5 ∨ b.owner = 6 ∨ b.owner = 7 := by omega
    rcases this with e | e | e | e | e | e | e | e <;> simp [e] <;> omega
theorem BOk.len {B : List Blob} (h : BOk B) : B.length ≤ 2048 := by
  have := count8 h.rt
  have := h.n 0; have := h.n 1; have := h.n 2; have := h.n 3; have := h.n 4; have := h.n 5; have := h.n 6; have := h.n 7
  omega
theorem BOk.put {B : List Blob} (h : BOk B) (b : Blob) : BOk (bput B b).1 := by
  unfold bput
  split
  · exact h
  · rename_i hr
    have hr : b.Rt := Classical.not_not.1 hr
    split
    · split <;> exact h
    · rename_i hf
      split
      · exact h
      · rename_i hroom
        have hn : ∀ o, usedN [b] o = if b.owner = o then 1 else 0 := fun o => by simp [usedN, List.countP_cons]
        have hb : ∀ o, usedB [b] o = if b.owner = o then b.cipher.length else 0 := fun o => by simp [usedB, lenOf]
        refine ⟨fun x hx => ?_, fun i j x y hx hy ho hnu => ?_, fun o => ?_, fun o => ?_⟩
        · rcases List.mem_append.1 hx with hx | hx
          · exact h.rt x hx
          · simp at hx; subst hx; exact hr
        · rw [List.getElem?_append] at hx hy
          split at hx
          · split at hy
            · exact h.nd i j x y hx hy ho hnu
            · have e : y = b := by
                have hj : j - B.length = 0 := by
                  have := (List.getElem?_eq_some_iff.1 hy).1; simp at this; omega
                rw [hj] at hy; simp at hy; exact hy.symm
              subst e
              exact absurd ⟨ho, hnu⟩ (bfind_none hf x (List.mem_of_getElem? hx))
          · rename_i hi
            have hi0 : i - B.length = 0 := by have := (List.getElem?_eq_some_iff.1 hx).1; simp at this; omega
            rw [hi0] at hx; simp at hx; subst hx
            split at hy
            · exact absurd ⟨ho.symm, hnu.symm⟩ (bfind_none hf y (List.mem_of_getElem? hy))
            · rename_i hj
              have hj0 : j - B.length = 0 := by have := (List.getElem?_eq_some_iff.1 hy).1; simp at this; omega
              omega
        · rw [usedN_app, hn]
          have := h.n o
          split
          · rename_i e; subst e; omega
          · omega
        · rw [usedB_app, hb]
          have := h.b o
          split
          · rename_i e; subst e; omega
          · omega
theorem usedN_erase {B : List Blob} {i : Nat} {b : Blob} (h : B[i]? = some b) {o : Int} : usedN B o = usedN (B.eraseIdx i) o + if b.owner = o then 1 else 0 := by
  obtain ⟨h1, h2⟩ := erase_split h
  rw [h2]
  have e : usedN B o = usedN (B.take i ++ b :: B.drop (i + 1)) o := congrArg (usedN · o) h1
  rw [e, usedN_app, usedN_app]
  simp [usedN, List.countP_cons]; omega
theorem usedB_erase {B : List Blob} {i : Nat} {b : Blob} (h : B[i]? = some b) {o : Int} : usedB B o = usedB (B.eraseIdx i) o + lenOf o b := by
  obtain ⟨h1, h2⟩ := erase_split h
  rw [h2]
  have e : usedB B o = usedB (B.take i ++ b :: B.drop (i + 1)) o := congrArg (usedB · o) h1
  rw [e, usedB_app, usedB_app]
  simp [usedB]; omega
theorem BOk.erase {B : List Blob} (h : BOk B) {i : Nat} {b : Blob} (hb : B[i]? = some b) : BOk (B.eraseIdx i) := by
  refine ⟨fun x hx => h.rt x (List.mem_of_mem_eraseIdx hx), fun p q x y hx hy ho hn => ?_, fun o => ?_, fun o => ?_⟩
  · rw [List.getElem?_eraseIdx] at hx hy
    split at hx <;> split at hy
    · exact h.nd p q x y hx hy ho hn
    · have := h.nd p (q + 1) x y hx hy ho hn; omega
    · have := h.nd (p + 1) q x y hx hy ho hn; omega
    · have := h.nd (p + 1) (q + 1) x y hx hy ho hn; omega
  · have := usedN_erase hb (o := o); have := h.n o; omega
  · have := usedB_erase hb (o := o); have := h.b o; omega
theorem BOk.prune1 {B : List Blob} (h : BOk B) (o n : Int) : BOk (bprune1 B o n).1 := by
  unfold bprune1
  split
  · rename_i i hf
    obtain ⟨b, hb, _⟩ := bfind_some hf
    exact h.erase hb
  · exact h
theorem bprune_snoc {B : List Blob} {o : Int} {l : List Int} {n : Int} : bprune B o (l ++ [n]) = ((bprune1 (bprune B o l).1 o n).1, (bprune B o l).2 + (bprune1 (bprune B o l).1 o n).2) := by
  unfold bprune; rw [List.foldl_append]; rfl
theorem bprune_next {B : List Blob} {o : Int} {l : List Int} {i : Nat} {n : Int} (h : l[i]? = some n) : bprune B o (l.take (i + 1)) = ((bprune1 (bprune B o (l.take i)).1 o n).1, (bprune B o (l.take i)).2 + (bprune1 (bprune B o (l.take i)).1 o n).2) := by
  rw [List.take_add_one, h]; exact bprune_snoc
theorem BOk.prune_take {B : List Blob} (h : BOk B) (o : Int) (l : List Int) : ∀ i, i ≤ l.length → BOk (bprune B o (l.take i)).1
  | 0, _ => h
  | i + 1, hi => by
    have hx : l[i]? = some l[i] := List.getElem?_eq_getElem (by omega)
    rw [bprune_next hx]
    exact (BOk.prune_take h o l i (by omega)).prune1 _ _
theorem BOk.prune {B : List Blob} (h : BOk B) (o : Int) (l : List Int) : BOk (bprune B o l).1 := by
  have := h.prune_take o l l.length (Nat.le_refl _)
  rwa [List.take_length] at this
theorem prune_le {B : List Blob} {o : Int} {l : List Int} : ∀ i, i ≤ l.length → (bprune B o (l.take i)).2 ≤ i
  | 0, _ => Nat.le_refl _
  | i + 1, hi => by
    have hx : l[i]? = some l[i] := List.getElem?_eq_getElem (by omega)
    have := prune_le (B := B) (o := o) i (show i ≤ l.length by omega)
    rw [bprune_next hx]
    have h1 : ∀ C : List Blob, (bprune1 C o l[i]).2 ≤ 1 := fun C => by unfold bprune1; split <;> simp
    have := h1 (bprune B o (l.take i)).1
    simp only; omega
/-! Entries met in any order. -/
theorem perm_of_mem {α : Type} : ∀ {l m : List α}, l.Nodup → m.Nodup → (∀ x, x ∈ l ↔ x ∈ m) → l.Perm m
  | [], m, _, _, h => by
    cases m with
    | nil => exact List.Perm.refl _
    | cons a m => have := (h a).2 (List.mem_cons_self ..); cases this
  | a :: l, m, hl, hm, h => by
    obtain ⟨ha, hl⟩ := List.nodup_cons.1 hl
    have ham := (h a).1 (List.mem_cons_self ..)
    have hp := List.perm_cons_erase ham
    refine (List.Perm.cons a (perm_of_mem hl (hm.erase a) fun x => ?_)).trans hp.symm
    rw [hm.mem_erase_iff]
    constructor
    · intro hx; exact ⟨fun e => ha (e ▸ hx), (h x).1 (List.mem_cons_of_mem _ hx)⟩
    · rintro ⟨hne, hx⟩
      exact (List.mem_cons.1 ((h x).2 hx)).resolve_left hne
structure Met (E D : List (Nat × Blob)) : Prop where
  sub : ∀ e ∈ D, e ∈ E
  nd : (D.map (·.1)).Nodup
theorem nodup_of_map {α β : Type} {f : α → β} : ∀ {l : List α}, (l.map f).Nodup → l.Nodup
  | [], _ => List.nodup_nil
  | a :: l, h => by
    obtain ⟨h1, h2⟩ := List.nodup_cons.1 (show (f a :: l.map f).Nodup from h)
    exact List.nodup_cons.2 ⟨fun hm => h1 (List.mem_map_of_mem hm), nodup_of_map h2⟩
theorem Met.len {E D : List (Nat × Blob)} (h : Met E D) : D.length ≤ E.length := by
  have := L32.countP_sub (p := fun _ => true) (nodup_of_map h.nd) h.sub
  simpa using this
theorem Met.add {E D : List (Nat × Blob)} (h : Met E D) {e : Nat × Blob} (he : e ∈ E) (hn : ¬ e.1 ∈ D.map (·.1)) : Met E (D ++ [e]) := by
  refine ⟨fun x hx => ?_, ?_⟩
  · rcases List.mem_append.1 hx with hx | hx
    · exact h.sub x hx
    · simp at hx; subst hx; exact he
  · rw [List.map_append, List.nodup_append]
    exact ⟨h.nd, by simp, fun a ha b hb => by simp at hb; subst hb; exact fun e2 => hn (e2 ▸ ha)⟩
theorem Met.all {E D : List (Nat × Blob)} (h : Met E D) (hE : (E.map (·.1)).Nodup) (ha : ∀ e ∈ E, e.1 ∈ D.map (·.1)) : D.Perm E := by
  refine perm_of_mem (nodup_of_map h.nd) (nodup_of_map hE) fun x => ⟨h.sub x, fun hx => ?_⟩
  obtain ⟨d, hd, e⟩ := List.mem_map.1 (ha x hx)
  have hd' := h.sub d hd
  obtain ⟨i, hi⟩ := List.mem_iff_getElem?.1 hd'
  obtain ⟨k, hk⟩ := List.mem_iff_getElem?.1 hx
  have h1 : (E.map (·.1))[i]? = some d.1 := by simp [hi]
  have h2 : (E.map (·.1))[k]? = some d.1 := by simp [hk, e]
  have : i = k := (List.getElem?_inj (List.getElem?_eq_some_iff.1 h1).1 hE).1 (by rw [h1, h2])
  subst this
  rw [hi] at hk; cases hk; exact hd
end Go.Aff.L10

namespace Go.Aff.L10
open Go.Proofs Go.Aff Go.Aff.L01 Classical
set_option maxRecDepth 20000
attribute [-go_sem] cellAt_new
attribute [-simp] List.length_flatMap
attribute [local go_sem] Tryz.underlying9 blobPs_0 blobAt_0 blobPs_1 blobAt_1 blobPs_2 blobAt_2 sizes_blob shapes_blob fits_blob zero_blob zt_blob Tryz.underlying39
attribute [local go_sem] fits3 fits9
attribute [local go_sem] bkeyPs_0 bkeyAt_0 sizes_bkey shapes_bkey fits_bkey zero_bkey zt_bkey Tryz.underlying107 fits58 stAt zero60 zt60 built60 shape_mp Tryz.underlying103 Tryz.underlying105 Tryz.underlying57
theorem objs_setSB {s : AST} {k : Nat} {o : AObj} (h : k < s.objs.length) : (s.set k o).objs[k]? = some o := by simp only [AST.set]; rw [List.getElem?_set_self h]
theorem objs_setNB {s : AST} {j k : Nat} {o : AObj} (h : j ≠ k) : (s.set j o).objs[k]? = s.objs[k]? := by simp only [AST.set]; rw [List.getElem?_set_ne h]
theorem ext_knownB {a b : AST} {k : Nat} {o : AObj} (h : Ext a b) (ho : a.objs[k]? = some o) : b.objs[k]? = some o := by
  obtain ⟨O, T, rfl⟩ := h
  rw [List.getElem?_append_left (List.getElem?_eq_some_iff.1 ho).1]; exact ho
theorem cell_ltB {s : AST} {j : Nat} {o : AObj} (h : s.objs[j]? = some o) : j < s.objs.length := (List.getElem?_eq_some_iff.1 h).1
def kOf (b : Blob) : BKey := ⟨b.owner, b.num⟩
def entB (e : Nat × Blob) : Nat × AV × AV := (e.1, .agg (bkeyPs (kOf e.2)), .agg (blobPs e.2))
theorem findB {o n : Int} : ∀ {E : List (Nat × Blob)}, findE Tryz.prog 107 (.agg (bkeyPs ⟨o, n⟩)) (E.map entB) = some (bfind (E.map (·.2)) o n)
  | [] => rfl
  | e :: E => by
    have ih := findB (o := o) (n := n) (E := E)
    simp only [List.map_cons, findE, entB, eqK, bkey_ok, if_true, eq_bkey]
    unfold bfind at ih ⊢
    rw [List.findIdx?_cons]
    by_cases h : e.2.owner = o ∧ e.2.num = n
    · obtain ⟨rfl, rfl⟩ := h
      simp [isB, kOf]
    · have h1 : ¬ ((⟨o, n⟩ : BKey) = kOf e.2) := fun hh => h (by simp only [kOf, BKey.mk.injEq] at hh; exact ⟨hh.1.symm, hh.2.symm⟩)
      have h2 : isB o n e.2 = false := by simp only [isB, decide_eq_false_iff_not]; exact h
      rw [h2]
      simp only [decide_eq_false h1]
      change (findE Tryz.prog 107 (.agg (bkeyPs ⟨o, n⟩)) (E.map entB)).map _ = _
      rw [ih]; simp
structure SF (σ0 s : AST) (j mi : Nat) (B : List Blob) (F : List (Nat × AObj)) : Prop where
  x : Ext σ0 s
  jn : σ0.objs.length ≤ j
  mn : σ0.objs.length ≤ mi
  jm : j ≠ mi
  o : s.objs[j]? = some (.cells (.agg [.mp (some mi)]))
  om : ∃ (E : List (Nat × Blob)) (ck : Nat), E.map (·.2) = B ∧ s.objs[mi]? = some (.map (E.map entB) ck) ∧ (∀ e ∈ E, e.1 < ck) ∧ (E.map (·.1)).Nodup
  f : ∀ x ∈ F, x.1 ≠ j ∧ x.1 ≠ mi ∧ s.objs[x.1]? = some x.2
section
variable {σ0 s s2 : AST} {j mi : Nat} {B : List Blob} {F : List (Nat × AObj)} {K : AV → AST → Prop}
theorem SF.ext (h : SF σ0 s j mi B F) (e : Ext s s2) : SF σ0 s2 j mi B F := by
  obtain ⟨E, ck, h1, h2, h3, h4⟩ := h.om
  exact ⟨h.x.trans e, h.jn, h.mn, h.jm, ext_knownB e h.o, ⟨E, ck, h1, ext_knownB e h2, h3, h4⟩, fun x hx => ⟨(h.f x hx).1, (h.f x hx).2.1, ext_knownB e (h.f x hx).2.2⟩⟩
theorem SF.more (h : SF σ0 s j mi B F) {i : Nat} {o : AObj} (ho : s.objs[i]? = some o) (h1 : i ≠ j) (h2 : i ≠ mi) : SF σ0 s j mi B ((i, o) :: F) :=
  ⟨h.x, h.jn, h.mn, h.jm, h.o, h.om, fun x hx => by
    rcases List.mem_cons.1 hx with rfl | hx
    · exact ⟨h1, h2, ho⟩
    · exact h.f x hx⟩
theorem SF.less {y : Nat × AObj} (h : SF σ0 s j mi B (y :: F)) : SF σ0 s j mi B F := ⟨h.x, h.jn, h.mn, h.jm, h.o, h.om, fun x hx => h.f x (List.mem_cons_of_mem _ hx)⟩
theorem SF.lt (h : SF σ0 s j mi B F) : j < s.objs.length ∧ mi < s.objs.length := by
  obtain ⟨E, ck, _, h2, _⟩ := h.om
  exact ⟨cell_ltB h.o, cell_ltB h2⟩
theorem SF.box (h : SF σ0 s j mi B F) (o : AObj) : SF σ0 (s.app [o]) j mi B ((s.objs.length, o) :: F) := by
  have hl := h.lt
  exact (h.ext (Ext.app _ _)).more objs_app0 (by omega) (by omega)
theorem SF.put (h : SF σ0 s j mi B F) {E : List (Nat × Blob)} {ck : Nat} (h1 : ∀ e ∈ E, e.1 < ck) (h2 : (E.map (·.1)).Nodup) : SF σ0 (s.set mi (.map (E.map entB) ck)) j mi (E.map (·.2)) F :=
  ⟨h.x.set h.mn, h.jn, h.mn, h.jm, by rw [objs_setNB (Ne.symm h.jm)]; exact h.o, ⟨E, ck, rfl, objs_setSB h.lt.2, h1, h2⟩, fun x hx => ⟨(h.f x hx).1, (h.f x hx).2.1, by rw [objs_setNB (Ne.symm (h.f x hx).2.1)]; exact (h.f x hx).2.2⟩⟩
theorem lookupB {σ : AST} {E : List (Nat × Blob)} {ck : Nat} {o n : Int} {KV : AV → Prop} (ho : σ.objs[mi]? = some (.map (E.map entB) ck))
    (h1 : ∀ i b, bfind (E.map (·.2)) o n = some i → (E.map (·.2))[i]? = some b → KV (.tuple [.agg (blobPs b), .bool true])) (h2 : bfind (E.map (·.2)) o n = none → KV (.tuple [.agg (blobPs blob0), .bool false])) :
    lookupW Tryz.prog σ 103 (.mp (some mi)) (.agg (bkeyPs ⟨o, n⟩)) true KV := by
  refine ⟨107, 39, Tryz.underlying103, bkey_ok, ?_⟩
  simp only [ho]
  refine ⟨_, findB, ?_⟩
  cases hf : bfind (E.map (·.2)) o n with
  | none =>
    refine ⟨by rw [zero_blob]; exact of_eq_true zt_blob, ?_⟩
    rw [zero_blob]; exact h2 hf
  | some i =>
    intro e he
    rw [List.getElem?_map] at he
    obtain ⟨x, hx, rfl⟩ := Option.map_eq_some_iff.1 he
    exact h1 i x.2 hf (by rw [List.getElem?_map, hx]; rfl)
theorem updateB {σ : AST} {E : List (Nat × Blob)} {ck : Nat} {b : Blob} {KS : AST → Prop} (ho : σ.objs[mi]? = some (.map (E.map entB) ck)) (hf : bfind (E.map (·.2)) b.owner b.num = none)
    (hK : KS (σ.set mi (.map ((E ++ [(ck, b)]).map entB) (ck + 1)))) : mapUpdateW Tryz.prog σ 103 (.mp (some mi)) (.agg (bkeyPs ⟨b.owner, b.num⟩)) (.agg (blobPs b)) KS := by
  refine ⟨107, 39, Tryz.underlying103, bkey_ok, rfl, ?_⟩
  simp only [ho]
  refine ⟨_, findB, ?_⟩
  rw [hf]
  simpa [entB, kOf] using hK
theorem deleteB {σ : AST} {E : List (Nat × Blob)} {ck i : Nat} {o n : Int} {KS : AST → Prop} (ho : σ.objs[mi]? = some (.map (E.map entB) ck)) (hf : bfind (E.map (·.2)) o n = some i)
    (hK : KS (σ.set mi (.map ((E.eraseIdx i).map entB) ck))) : deleteW Tryz.prog ⟨[103, 107]⟩ (.mp (some mi)) (.agg (bkeyPs ⟨o, n⟩)) σ KS := by
  refine ⟨103, 107, 39, rfl, Tryz.underlying103, bkey_ok, ?_⟩
  simp only [ho]
  refine ⟨_, findB, ?_⟩
  rw [hf]
  simp only
  have : (E.map entB).eraseIdx i = (E.eraseIdx i).map entB := by
    rw [List.eraseIdx_eq_take_drop_succ, List.eraseIdx_eq_take_drop_succ, List.map_append, List.map_take, List.map_drop]
  rw [this]; exact hK
end
theorem bright_c {b : Blob} {σ : AST} {K : AV → AST → Prop} (hK : K (.bool (decide b.Rt)) σ) : TCalls Tryz.prog 80 [.agg (blobPs b)] σ K := by
  refine TCalls.drop ?_
  refine tcalls_walk Tryz.f80 _ [.tmp 2] Tryz.func80 rfl rfl rfl mixed (Nat.le_of_ble_eq_true rfl) rfl fun hlen => ?_
  repeat' (first | (simp -dsimp only [↓reduceIte, go_sem]) | (refine arr_intro fun _ => ?_) | (refine guardV_split (fun h => ?_) (fun h => ?_) <;> (try rw [h]) <;> (try simp at h) <;> (try (exfalso; omega))))
  all_goals ((refine bool_endDX (Ext.app _ _) hK ?_; simp [Blob.Rt]; omega))
theorem snew_c {σ : AST} {K : AV → AST → Prop} (hK : ∀ s' j mi, SF σ s' j mi [] [] → K (.ptr (some (j, []))) s') : TCalls Tryz.prog 23 [] σ K := by
  refine tcalls_walk Tryz.f23 _ [.tmp 0] Tryz.func23 rfl rfl rfl mixed (Nat.le_of_ble_eq_true rfl) rfl fun hlen => ?_
  repeat' (simp -dsimp only [↓reduceIte, go_sem])
  refine hK _ (σ.objs.length + 1) σ.objs.length ⟨Ext.app _ _, by omega, by omega, by omega, by rw [objs_app]; rfl, ⟨[], 0, rfl, by rw [objs_app0]; rfl, by simp, by simp⟩, by simp⟩
theorem usedB_le {L : List Blob} {o : Int} (h : ∀ b ∈ L, b.Rt) : usedB L o ≤ L.length * 4096 := by
  induction L with
  | nil => simp [usedB]
  | cons b L ih =>
    have h1 := ih fun x hx => h x (List.mem_cons_of_mem _ hx)
    have h2 := (h b (List.mem_cons_self ..)).2.2.2.2
    have e : usedB (b :: L) o = lenOf o b + usedB L o := by simp [usedB]
    have h3 : lenOf o b ≤ b.cipher.length := by unfold lenOf; split <;> omega
    rw [e, List.length_cons]; omega
theorem usedN_le {L : List Blob} {o : Int} : usedN L o ≤ L.length := List.countP_le_length
section
variable {σ0 s : AST} {j mi : Nat} {B : List Blob} {F : List (Nat × AObj)} {K : AV → AST → Prop}
theorem sused_c (h : SF σ0 s j mi B F) (hB : BOk B) {o : Int} (hK : ∀ s', Ext s s' → K (.tuple [.int .i64 (usedN B o : Nat), .int .i64 (usedB B o : Nat)]) s') : TCalls Tryz.prog 81 [.ptr (some (j, [])), .int .i64 o] s K := by
  obtain ⟨E, ck, rfl, hm, hck, hnd⟩ := h.om
  have cj := cellAt_known h.o
  have hlt := h.lt
  refine tcalls_walk Tryz.f81 _ [.tmp 4, .tmp 5] Tryz.func81 rfl rfl rfl mixed (Nat.le_of_ble_eq_true rfl) rfl fun hlen => ?_
  repeat' (simp -dsimp only [↓reduceIte, go_sem, cj])
  refine ⟨⟨107, 39, Tryz.underlying103⟩, ?_⟩
  simp only [hm]
  intro l b
  repeat' (simp -dsimp only [↓reduceIte, go_sem])
  have hlen : E.length ≤ 2048 := by have := hB.len; rwa [List.length_map] at this
  have hck' : ∀ e ∈ E.map entB, e.1 < ck := fun e he => by obtain ⟨x, hx, rfl⟩ := List.mem_map.1 he; exact hck x hx
  refine awp_rounds (fun (i : Nat) τ s' => ∃ (D : List (Nat × Blob)) (last : Nat), D.length = i ∧ Met E D ∧ ck ≤ last ∧ Ext s s' ∧ s'.objs[s.objs.length]? = some (iterO l b mi ck (D.map (·.1)).toArray last) ∧ τ 1 = .int .i64 o ∧ τ 6 = .int .i64 (usedN (D.map (·.2)) o : Nat) ∧ τ 7 = .int .i64 (usedB (D.map (·.2)) o : Nat) ∧ τ 16 = .ptr (some (s.objs.length, []))) (fun i => E.length - i) 0 ?_ ?_
  · refine ⟨[], ck, rfl, ⟨by simp, by simp⟩, Nat.le_refl _, Ext.app _ _, by rw [objs_app0]; rfl, ?_, ?_, ?_, ?_⟩ <;> (try simp only [go_sem]) <;> (try rfl)
  · rintro i τ s' ⟨D, last, hDl, hD, hla, hx, hit, t1, t6, t7, t16⟩
    have hm' := ext_knownB hx hm
    have hDlen := hD.len
    repeat' (simp -dsimp only [↓reduceIte, go_sem, t1, t6, t7, t16])
    refine ⟨rfl, s.objs.length, l, b, mi, ck, _, last, _, _, rfl, hit, hm', hck', hla, fun e he hne => ?_, fun hall => ?_⟩
    · obtain ⟨e, he0, rfl⟩ := List.mem_map.1 he
      have hne' : ¬ e.1 ∈ D.map (·.1) := by simpa [entB] using hne
      have hD' := hD.add he0 hne'
      have hl2 := hD'.len
      rw [List.length_append] at hl2
      simp only [List.length_singleton] at hl2
      have hil := cell_ltB hit
      have oit : ∀ l, ((s'.set s.objs.length (iterO l b mi ck ((D.map (·.1)).toArray.push (entB e).1) ck))).objs[s.objs.length]? = some (iterO l b mi ck ((D.map (·.1)).toArray.push (entB e).1) ck) := fun l => objs_setSB hil
      have omi : ∀ o, (s'.set s.objs.length o).objs[mi]? = some (.map (E.map entB) ck) := fun o => by rw [objs_setNB (by omega)]; exact hm'
      repeat' (simp -dsimp only [↓reduceIte, go_sem, t1, t6, t7, t16])
      refine ⟨s.objs.length, l, b, mi, ck, (D.map (·.1)).toArray, _, entB e, ck, rfl, oit _, omi _, he, ?_⟩
      have hx3 := hx.set (o := iterO l b mi ck ((D.map (·.1)).toArray.push (entB e).1) ck) (Nat.le_refl s.objs.length)
      have oit3 : (s'.set s.objs.length (iterO l b mi ck ((D.map (·.1)).toArray.push (entB e).1) ck)).objs[s.objs.length]? = some (iterO l b mi ck ((D ++ [e]).map (·.1)).toArray ck) := by
        rw [objs_setSB hil]
        have : (D.map (·.1)).toArray.push (entB e).1 = ((D ++ [e]).map (·.1)).toArray := by simp [entB]
        rw [this]
      generalize s'.set s.objs.length (iterO l b mi ck ((D.map (·.1)).toArray.push (entB e).1) ck) = s3 at *
      have k1 : (entB e).2.1 = .agg (bkeyPs (kOf e.2)) := rfl
      have k2 : (entB e).2.2 = .agg (blobPs e.2) := rfl
      have k3 : (kOf e.2).owner = e.2.owner := rfl
      have hrt : ∀ b ∈ D.map (·.2), b.Rt := fun b hb => by
        obtain ⟨x, hx, rfl⟩ := List.mem_map.1 hb
        exact hB.rt _ (List.mem_map_of_mem (hD.sub x hx))
      have hn := usedN_le (L := D.map (·.2)) (o := o)
      have hb := usedB_le (L := D.map (·.2)) (o := o) hrt
      rw [List.length_map] at hn hb
      have her := (hB.rt e.2 (List.mem_map_of_mem he0)).2.2.2.2
      have w1 : IntKind.i64.wrap ((usedN (D.map (·.2)) o : Nat) + 1) = ((usedN (D.map (·.2)) o + 1 : Nat) : Int) := by rw [wrap_i64 (by omega) (by omega)]; simp
      have w2 : IntKind.i64.wrap ((usedB (D.map (·.2)) o : Nat) + (e.2.cipher.length : Nat)) = ((usedB (D.map (·.2)) o + e.2.cipher.length : Nat) : Int) := by rw [wrap_i64 (by omega) (by omega)]; simp
      by_cases ho : e.2.owner = o
      · have d1 : usedN ((D ++ [e]).map (·.2)) o = usedN (D.map (·.2)) o + 1 := by rw [List.map_append, usedN_app]; simp [usedN, ho]
        have d2 : usedB ((D ++ [e]).map (·.2)) o = usedB (D.map (·.2)) o + e.2.cipher.length := by rw [List.map_append, usedB_app]; simp [usedB, lenOf, ho]
        have hq : (e.2.owner == o) = true := by simp [ho]
        repeat' (first | (simp -dsimp only [↓reduceIte, go_sem, t1, t6, t7, t16, k1, k2, k3, hq, w1, w2]) | (refine arr_intro fun _ => ?_))
        refine later_intro ⟨i + 1, by omega, D ++ [e], ck, by simp [hDl], hD', Nat.le_refl _, hx3.trans (Ext.app _ _), objs_known_app oit3 _, ?_, ?_, ?_, ?_⟩ <;> (try simp only [go_sem, t1, t6, t7, t16, d1, d2]) <;> (try rfl)
      · have d1 : usedN ((D ++ [e]).map (·.2)) o = usedN (D.map (·.2)) o := by rw [List.map_append, usedN_app]; simp [usedN, ho]
        have d2 : usedB ((D ++ [e]).map (·.2)) o = usedB (D.map (·.2)) o := by rw [List.map_append, usedB_app]; simp [usedB, lenOf, ho]
        have hq : (e.2.owner == o) = false := by simp [ho]
        repeat' (simp -dsimp only [↓reduceIte, go_sem, t1, t6, t7, t16, k1, k2, k3, hq, w1, w2])
        refine later_intro ⟨i + 1, by omega, D ++ [e], ck, by simp [hDl], hD', Nat.le_refl _, hx3.trans (Ext.app _ _), objs_known_app oit3 _, ?_, ?_, ?_, ?_⟩ <;> (try simp only [go_sem, t1, t6, t7, t16, d1, d2]) <;> (try rfl)
    · have hperm := hD.all hnd fun e he => by
        have := hall (entB e) (List.mem_map_of_mem he)
        simpa [entB] using this
      have e1 := usedN_perm (hperm.map (·.2)) (o := o)
      have e2 := usedB_perm (hperm.map (·.2)) (o := o)
      repeat' (simp -dsimp only [↓reduceIte, go_sem, t1, t6, t7, t16, e1, e2])
      exact hK _ hx
end
attribute [local go_sem] Tryz.underlying40 built_blob
attribute [local go_sem] bkeySet_0 bkeyPs_1 bkeyAt_1 bkeySet_1 built_bkey bin_blob_neq
noncomputable def bgot (B : List Blob) (o n : Int) : Option Blob := match bfind B o n with
  | some i => B[i]?
  | none => none
section
variable {σ0 s : AST} {j mi : Nat} {B : List Blob} {F : List (Nat × AObj)} {K : AV → AST → Prop}
theorem sget_c (h : SF σ0 s j mi B F) {o n : Int} (hK : ∀ s', Ext s s' → K (match bgot B o n with | some b => .tuple [.agg (blobPs b), .int .i64 0] | none => .tuple [.agg (blobPs blob0), .int .i64 9]) s') : TCalls Tryz.prog 75 [.ptr (some (j, [])), .int .i64 o, .int .i64 n] s K := by
  obtain ⟨E, ck, rfl, hm, hck, hnd⟩ := h.om
  have oA := fun l => objs_known_app h.o l
  have cj := fun l => cellAt_known (oA l)
  have mA := fun l => objs_known_app hm l
  unfold bgot at hK
  refine tcalls_walk Tryz.f75 _ [.cell 6 39, .tmp 7] Tryz.func75 rfl rfl rfl mixed (Nat.le_of_ble_eq_true rfl) rfl fun hlen => ?_
  repeat' (first | (simp -dsimp only [↓reduceIte, go_sem, cj]) | (refine lookupB (mA _) (fun i b hf hb => ?_) (fun hf => ?_)))
  · simp only [hf, hb] at hK
    exact hK _ (Ext.app _ _)
  · simp only [hf] at hK
    exact hK _ (Ext.app _ _)
theorem lookupB_some {σ : AST} {E : List (Nat × Blob)} {ck i : Nat} {o n : Int} {b : Blob} {KV : AV → Prop} (ho : σ.objs[mi]? = some (.map (E.map entB) ck)) (hf : bfind (E.map (·.2)) o n = some i) (hb : (E.map (·.2))[i]? = some b)
    (h1 : KV (.tuple [.agg (blobPs b), .bool true])) : lookupW Tryz.prog σ 103 (.mp (some mi)) (.agg (bkeyPs ⟨o, n⟩)) true KV :=
  lookupB ho (fun i' b' hf' hb' => by rw [hf] at hf'; cases hf'; rw [hb] at hb'; cases hb'; exact h1) (fun hf' => by rw [hf] at hf'; cases hf')
theorem lookupB_none {σ : AST} {E : List (Nat × Blob)} {ck : Nat} {o n : Int} {KV : AV → Prop} (ho : σ.objs[mi]? = some (.map (E.map entB) ck)) (hf : bfind (E.map (·.2)) o n = none)
    (h1 : KV (.tuple [.agg (blobPs blob0), .bool false])) : lookupW Tryz.prog σ 103 (.mp (some mi)) (.agg (bkeyPs ⟨o, n⟩)) true KV :=
  lookupB ho (fun i' b' hf' hb' => by rw [hf] at hf'; cases hf') (fun _ => h1)
theorem sput_c (h : SF σ0 s j mi B F) (hB : BOk B) {b : Blob} (hK : ∀ s', SF σ0 s' j mi (bput B b).1 F → K (.int .i64 (bput B b).2) s') : TCalls Tryz.prog 36 [.ptr (some (j, [])), .agg (blobPs b)] s K := by
  have hA := fun l => h.ext (Ext.app s l)
  have oA := fun l => (hA l).o
  have cj := fun l => cellAt_known (oA l)
  obtain ⟨E, ck, hE, hm, hck, hnd⟩ := h.om
  have mA := fun l => objs_known_app hm l
  unfold bput at hK
  by_cases hr : b.Rt
  · rw [if_neg (fun hh => hh hr)] at hK
    cases hf : bfind B b.owner b.num with
    | some i =>
      obtain ⟨b', hb', _⟩ := bfind_some hf
      simp only [hf, hb', Option.some.injEq] at hK
      rw [← hE] at hf hb'
      by_cases he : b' = b
      · rw [if_pos he] at hK
        subst he
        refine tcalls_walk Tryz.f36 _ [.tmp 4] Tryz.func36 rfl rfl rfl mixed (Nat.le_of_ble_eq_true rfl) rfl fun hlen => ?_
        repeat' (first | (simp -dsimp only [↓reduceIte, go_sem, cj, hr]) | (refine later_intro ⟨keeps_nil, ?_⟩) | (refine later_intro ⟨keeps_refl, ?_⟩) | (refine both_ways ?_ ?_) | ((refine bright_c ?_)) | (with_reducible refine awp_drawU (id := 6) (.op 0 0 (.op 1 0 (.op 2 0 (.op 3 0 (.op 4 0 (.fork 5 (.op 5 1 (.op 6 0 (.op 7 0 (.op 8 0 (.op 9 1 (.op 10 1 (.op 11 2 .nil))))))) (.op 9 1 (.cut (.op 5 1 (.op 6 2 (.op 7 2 (.op 8 0 (.op 10 1 (.op 11 2 .nil)))))))))))))) (by kernel_rfl) ?_) | (with_reducible refine keeps_go ?_ ?_; focus (simp [keeps_cons, keeps_none, objs_app, objs_app0, oA]; done)) | (refine lookupB_some (mA _) hf hb' ?_))
        all_goals exact hK _ (hA _)
      · rw [if_neg he] at hK
        refine tcalls_walk Tryz.f36 _ [.tmp 4] Tryz.func36 rfl rfl rfl mixed (Nat.le_of_ble_eq_true rfl) rfl fun hlen => ?_
        repeat' (first | (simp -dsimp only [↓reduceIte, go_sem, cj, hr, he]) | (refine later_intro ⟨keeps_nil, ?_⟩) | (refine later_intro ⟨keeps_refl, ?_⟩) | (refine both_ways ?_ ?_) | ((refine bright_c ?_)) | (with_reducible refine awp_drawU (id := 6) (.op 0 0 (.op 1 0 (.op 2 0 (.op 3 0 (.op 4 0 (.fork 5 (.op 5 1 (.op 6 0 (.op 7 0 (.op 8 0 (.op 9 1 (.op 10 1 (.op 11 2 .nil))))))) (.op 9 1 (.cut (.op 5 1 (.op 6 2 (.op 7 2 (.op 8 0 (.op 10 1 (.op 11 2 .nil)))))))))))))) (by kernel_rfl) ?_) | (with_reducible refine keeps_go ?_ ?_; focus (simp [keeps_cons, keeps_none, objs_app, objs_app0, oA]; done)) | (refine lookupB_some (mA _) hf hb' ?_))
        all_goals exact hK _ (hA _)
    | none =>
      simp only [hf] at hK
      have hf' := hf
      rw [← hE] at hf'
      have hn := hB.n b.owner
      have hb := hB.b b.owner
      have hbl := hr.2.2.2.2
      have hws : IntKind.i64.wrap (32768 - (b.cipher.length : Int)) = 32768 - (b.cipher.length : Int) := wrap_i64 (by omega) (by omega)
      by_cases hroom : 256 ≤ usedN B b.owner ∨ 32768 < usedB B b.owner + b.cipher.length
      · rw [if_pos hroom] at hK
        refine tcalls_walk Tryz.f36 _ [.tmp 4] Tryz.func36 rfl rfl rfl mixed (Nat.le_of_ble_eq_true rfl) rfl fun hlen => ?_
        repeat' (first | (simp -dsimp only [↓reduceIte, go_sem, cj, hr, hws]) | (refine later_intro ⟨keeps_nil, ?_⟩) | (refine later_intro ⟨keeps_refl, ?_⟩) | (refine both_ways ?_ ?_) | ((refine bright_c ?_)) | (with_reducible refine awp_drawU (id := 6) (.op 0 0 (.op 1 0 (.op 2 0 (.op 3 0 (.op 4 0 (.fork 5 (.op 5 1 (.op 6 0 (.op 7 0 (.op 8 0 (.op 9 1 (.op 10 1 (.op 11 2 .nil))))))) (.op 9 1 (.cut (.op 5 1 (.op 6 2 (.op 7 2 (.op 8 0 (.op 10 1 (.op 11 2 .nil)))))))))))))) (by kernel_rfl) ?_) | (with_reducible refine keeps_go ?_ ?_; focus (simp [keeps_cons, keeps_none, objs_app, objs_app0, oA]; done)) | (refine lookupB_none (mA _) hf' ?_))
        all_goals
          refine sused_c (hA _) hB fun s' hx => ?_
          have hT := (hA _).ext hx
          have b0 := ext_knownB hx (k := s.objs.length) (by rw [objs_app0]; rfl)
          have b1 := ext_knownB hx (k := s.objs.length + 1) (by rw [objs_app]; rfl)
          have c0 := cellAt_known b0
          have c1 := cellAt_known b1
          have oj := hT.o
          have cj := cellAt_known oj
          repeat' (first | (simp -dsimp only [↓reduceIte, go_sem, c0, c1, cj, hws]) | (refine arr_intro fun _ => ?_) | (refine guardV_split (fun h => ?_) (fun h => ?_) <;> (try rw [h]) <;> (try simp at h) <;> (try (exfalso; omega))))
          all_goals first | exact hK _ hT | (exfalso; omega) | skip
      · rw [if_neg hroom] at hK
        refine tcalls_walk Tryz.f36 _ [.tmp 4] Tryz.func36 rfl rfl rfl mixed (Nat.le_of_ble_eq_true rfl) rfl fun hlen => ?_
        repeat' (first | (simp -dsimp only [↓reduceIte, go_sem, cj, hr, hws]) | (refine later_intro ⟨keeps_nil, ?_⟩) | (refine later_intro ⟨keeps_refl, ?_⟩) | (refine both_ways ?_ ?_) | ((refine bright_c ?_)) | (with_reducible refine awp_drawU (id := 6) (.op 0 0 (.op 1 0 (.op 2 0 (.op 3 0 (.op 4 0 (.fork 5 (.op 5 1 (.op 6 0 (.op 7 0 (.op 8 0 (.op 9 1 (.op 10 1 (.op 11 2 .nil))))))) (.op 9 1 (.cut (.op 5 1 (.op 6 2 (.op 7 2 (.op 8 0 (.op 10 1 (.op 11 2 .nil)))))))))))))) (by kernel_rfl) ?_) | (with_reducible refine keeps_go ?_ ?_; focus (simp [keeps_cons, keeps_none, objs_app, objs_app0, oA]; done)) | (refine lookupB_none (mA _) hf' ?_))
        all_goals
          refine sused_c (hA _) hB fun s' hx => ?_
          have hT := (hA _).ext hx
          have b0 := ext_knownB hx (k := s.objs.length) (by rw [objs_app0]; rfl)
          have b1 := ext_knownB hx (k := s.objs.length + 1) (by rw [objs_app]; rfl)
          have c0 := cellAt_known b0
          have c1 := cellAt_known b1
          have oj := hT.o
          have cj := cellAt_known oj
          obtain ⟨E', ck', hE', hm', hck', hnd'⟩ := hT.om
          have hf2 := hf
          rw [← hE'] at hf2
          have hnew := hT.put (E := E' ++ [(ck', b)]) (ck := ck' + 1) (fun e he => by
            rcases List.mem_append.1 he with he | he
            · have := hck' e he; omega
            · simp at he; subst he; simp) (by
            rw [List.map_append, List.nodup_append]
            refine ⟨hnd', by simp, fun a ha c hc => ?_⟩
            simp at hc; subst hc
            obtain ⟨e, he, rfl⟩ := List.mem_map.1 ha
            have := hck' e he; omega)
          have e5 : (E' ++ [(ck', b)]).map (·.2) = B ++ [b] := by rw [List.map_append, hE']; rfl
          rw [e5] at hnew
          repeat' (first | (simp -dsimp only [↓reduceIte, go_sem, c0, c1, cj, hws]) | (refine arr_intro fun _ => ?_) | (refine later_intro ⟨keeps_nil, ?_⟩) | (refine guardV_split (fun h => ?_) (fun h => ?_) <;> (try rw [h]) <;> (try simp at h) <;> (try (exfalso; omega))) | (with_reducible refine awp_drawT (id := 14) (.op 0 2 (.op 1 2 (.op 2 2 (.op 3 2 (.op 4 2 (.op 5 2 (.op 6 1 .nil))))))) (by kernel_rfl) ?_) | (refine updateB hm' hf2 ?_))
          all_goals first | exact hK _ hnew | (exfalso; omega) | skip
  · rw [if_pos hr] at hK
    refine tcalls_walk Tryz.f36 _ [.tmp 4] Tryz.func36 rfl rfl rfl mixed (Nat.le_of_ble_eq_true rfl) rfl fun hlen => ?_
    repeat' (first | (simp -dsimp only [↓reduceIte, go_sem, cj, hr]) | ((refine bright_c ?_)))
    exact hK _ (hA _)
end
section
variable {σ0 s : AST} {j mi : Nat} {B : List Blob} {F : List (Nat × AObj)} {K : AV → AST → Prop}
theorem sprune_c (h : SF σ0 s j mi B F) (hB : BOk B) {o : Int} {tl : Tk} {l : List Int} (hK : ∀ s', SF σ0 s' j mi (bprune B o l).1 F → K (.int .i64 (bprune B o l).2) s') : TCalls Tryz.prog 37 [.ptr (some (j, [])), .int .i64 o, .slice tl (l.map (AV.int .i64))] s K := by
  refine tcalls_walk Tryz.f37 _ [.tmp 6] Tryz.func37 rfl rfl rfl mixed (Nat.le_of_ble_eq_true rfl) rfl fun hlen => ?_
  have hll : l.length ≤ 9223372036854775807 := by
    have := hlen (.slice tl (l.map (AV.int .i64))) (by simp)
    simp only [lenOk, List.length_map, maxL] at this; exact this
  repeat' (first | (simp -dsimp only [↓reduceIte, go_sem]) | (refine arr_intro fun _ => ?_))
  refine awp_rounds (fun (i : Nat) τ s' => i ≤ l.length ∧ SF σ0 s' j mi (bprune B o (l.take i)).1 F ∧ τ 0 = .ptr (some (j, [])) ∧ τ 1 = .int .i64 o ∧ τ 7 = .int .i64 (bprune B o (l.take i)).2 ∧ τ 16 = .slice tl (l.map (AV.int .i64)) ∧ τ 17 = .int .i64 l.length ∧ τ 18 = .int .i64 i) (fun i => l.length - i) 0 ?_ ?_
  · refine ⟨by omega, h, ?_, ?_, ?_, ?_, ?_, ?_⟩ <;> (try simp only [go_sem]) <;> (try rfl)
  · rintro i τ s' ⟨hi, hT, t0, t1, t7, t16, t17, t18⟩
    have hBi := hB.prune_take o l i hi
    have hle := prune_le (B := B) (o := o) i hi
    by_cases hlt : i < l.length
    · have hlt1 : (i : Int) < l.length := by omega
      have hp : l[i]? = some l[i] := List.getElem?_eq_getElem hlt
      generalize l[i] = n at hp
      have hnx := bprune_next (B := B) (o := o) hp
      generalize hC : bprune B o (l.take i) = C at *
      obtain ⟨C, c⟩ := C
      simp only at hT hBi hle hnx t7
      have hA := fun l => hT.ext (Ext.app s' l)
      have oA := fun l => (hA l).o
      have cj := fun l => cellAt_known (oA l)
      obtain ⟨E, ck, hE, hm, hck, hnd⟩ := hT.om
      have mA := fun l => objs_known_app hm l
      have hjl := hT.lt
      have w1 : IntKind.i64.wrap ((c : Int) + 1) = ((c + 1 : Nat) : Int) := by rw [wrap_i64 (by omega) (by omega)]; simp
      cases hf : bfind C o n with
      | some k =>
        obtain ⟨b, hb, _⟩ := bfind_some hf
        have h1 : bprune1 C o n = (C.eraseIdx k, 1) := by unfold bprune1; rw [hf]
        rw [h1] at hnx
        have hne : ∀ L, SF σ0 ((s'.app L).set mi (.map ((E.eraseIdx k).map entB) ck)) j mi (C.eraseIdx k) F := fun L => by
          have := (hA L).put (E := E.eraseIdx k) (ck := ck) (fun e he => hck e (List.mem_of_mem_eraseIdx he)) (by
            have e0 : (E.eraseIdx k).map (·.1) = (E.map (·.1)).eraseIdx k := by rw [List.eraseIdx_eq_take_drop_succ, List.eraseIdx_eq_take_drop_succ, List.map_append, List.map_take, List.map_drop]
            rw [e0]; exact hnd.sublist (List.eraseIdx_sublist ..))
          have e1 : (E.eraseIdx k).map (·.2) = C.eraseIdx k := by rw [List.eraseIdx_eq_take_drop_succ, List.map_append, List.map_take, List.map_drop, hE, ← List.eraseIdx_eq_take_drop_succ]
          rwa [e1] at this
        rw [← hE] at hf hb
        repeat' (first | (simp -dsimp only [↓reduceIte, go_sem, cj, t0, t1, t7, t16, t17, t18, hlt1, w1]) | (refine later_intro ⟨keeps_nil, ?_⟩) | (refine later_intro ⟨keeps_refl, ?_⟩) | (refine both_ways ?_ ?_) | (rw [wrap_i64 (by omega) (by omega)]) | (with_reducible refine awp_drawU (id := 8) (.op 0 0 (.op 1 0 (.op 2 0 (.op 3 0 (.op 4 0 (.fork 5 (.op 5 1 (.op 6 0 (.op 7 0 (.op 8 0 (.op 9 1 (.op 10 1 (.op 11 2 .nil))))))) (.op 9 1 (.cut (.op 5 1 (.op 6 2 (.op 7 2 (.op 8 0 (.op 10 1 (.op 11 2 .nil)))))))))))))) (by kernel_rfl) ?_) | (with_reducible refine keeps_go ?_ ?_; focus (simp [keeps_cons, keeps_none, objs_app, objs_app0, oA]; done)) | (with_reducible refine awp_drawT (id := 10) (.op 0 2 (.op 1 2 (.op 2 2 (.op 3 2 (.op 4 2 (.op 5 1 .nil)))))) (by kernel_rfl) ?_) | (refine nth_get hp ?_) | (refine lookupB_some (mA _) hf hb ?_) | (refine deleteB (mA _) hf ?_))
        all_goals (refine later_intro ⟨i + 1, by omega, by omega, ?_, ?_, ?_, ?_, ?_, ?_, ?_⟩ <;> (try simp only [go_sem, t0, t1, t7, t16, t17, t18, hnx]) <;> (try rfl))
        all_goals exact hne _
      | none =>
        have h1 : bprune1 C o n = (C, 0) := by unfold bprune1; rw [hf]
        rw [h1] at hnx
        rw [← hE] at hf
        repeat' (first | (simp -dsimp only [↓reduceIte, go_sem, cj, t0, t1, t7, t16, t17, t18, hlt1, w1]) | (refine later_intro ⟨keeps_nil, ?_⟩) | (refine later_intro ⟨keeps_refl, ?_⟩) | (refine both_ways ?_ ?_) | (rw [wrap_i64 (by omega) (by omega)]) | (with_reducible refine awp_drawU (id := 8) (.op 0 0 (.op 1 0 (.op 2 0 (.op 3 0 (.op 4 0 (.fork 5 (.op 5 1 (.op 6 0 (.op 7 0 (.op 8 0 (.op 9 1 (.op 10 1 (.op 11 2 .nil))))))) (.op 9 1 (.cut (.op 5 1 (.op 6 2 (.op 7 2 (.op 8 0 (.op 10 1 (.op 11 2 .nil)))))))))))))) (by kernel_rfl) ?_) | (with_reducible refine keeps_go ?_ ?_; focus (simp [keeps_cons, keeps_none, objs_app, objs_app0, oA]; done)) | (refine nth_get hp ?_) | (refine lookupB_none (mA _) hf ?_))
        all_goals (refine later_intro ⟨i + 1, by omega, by omega, ?_, ?_, ?_, ?_, ?_, ?_, ?_⟩ <;> (try simp only [go_sem, t0, t1, t7, t16, t17, t18, hnx]) <;> (try rfl))
        all_goals exact hA _
    · obtain rfl : i = l.length := by omega
      have hlt1 : ¬ ((l.length : Nat) : Int) < l.length := by omega
      rw [List.take_length] at hT t7
      repeat' (simp -dsimp only [↓reduceIte, go_sem, t0, t1, t7, t16, t17, t18, hlt1])
      exact hK _ hT
end
attribute [local go_sem] msgPs_0 msgAt_0 msgPs_1 msgAt_1 msgPs_8 msgAt_8 Tryz.underlying42
attribute [local go_sem] Tryz.underlying68
theorem fits28p {o : Option (Nat × List Nat)} : fits Tryz.prog 57 (.ptr o) = True := by rw [fits_leaf (P := Tryz.prog) (t := 57) (by kernel_rfl) (by kernel_rfl)]; simp [AV.isAgg, AV.size]
theorem fits22p {o : Option (Nat × List Nat)} : fits Tryz.prog 23 (.ptr o) = True := by rw [fits_leaf (P := Tryz.prog) (t := 23) (by kernel_rfl) (by kernel_rfl)]; simp [AV.isAgg, AV.size]
theorem fits76 {v : AV} : fits Tryz.prog 48 v = (v.isAgg = false ∧ v.size = 1) := fits_leaf (by kernel_rfl) (by kernel_rfl)
def srvPs (n : Int) (r b : Option (Nat × List Nat)) : List AV := [.int .i64 n, .ptr r, .ptr b]
theorem srvPs_0 {n : Int} {r b : Option (Nat × List Nat)} : (srvPs n r b)[0]? = some (.int .i64 n) := nr rfl
theorem srvPs_1 {n : Int} {r b : Option (Nat × List Nat)} : (srvPs n r b)[1]? = some (.ptr r) := nr rfl
theorem srvPs_2 {n : Int} {r b : Option (Nat × List Nat)} : (srvPs n r b)[2]? = some (.ptr b) := nr rfl
theorem srvSet_0 {n m : Int} {r b : Option (Nat × List Nat)} : (srvPs n r b).set 0 (.int .i64 m) = srvPs m r b := nr rfl
theorem srvSet_1 {n : Int} {r b q : Option (Nat × List Nat)} : (srvPs n r b).set 1 (.ptr q) = srvPs n q b := nr rfl
theorem srvSet_2 {n : Int} {r b q : Option (Nat × List Nat)} : (srvPs n r b).set 2 (.ptr q) = srvPs n r q := nr rfl
theorem srvAt_0 {n : Int} {r b : Option (Nat × List Nat)} {v : AV} : partIs Tryz.prog 68 (srvPs n r b) 0 v = fits Tryz.prog 3 v := by rw [partIs_of (o := 0) (T := 3) (by kernel_rfl)]; simp [srvPs, AV.sizes, AV.size]
theorem srvAt_1 {n : Int} {r b : Option (Nat × List Nat)} {v : AV} : partIs Tryz.prog 68 (srvPs n r b) 1 v = fits Tryz.prog 53 v := by rw [partIs_of (o := 1) (T := 53) (by kernel_rfl)]; simp [srvPs, AV.sizes, AV.size]
theorem srvAt_2 {n : Int} {r b : Option (Nat × List Nat)} {v : AV} : partIs Tryz.prog 68 (srvPs n r b) 2 v = fits Tryz.prog 57 v := by rw [partIs_of (o := 2) (T := 57) (by kernel_rfl)]; simp [srvPs, AV.sizes, AV.size]
theorem zero_srv : zeroA Tryz.prog 12 68 = .agg (srvPs 0 none none) := by kernel_rfl
theorem zt_srv : ZeroOf Tryz.prog 68 (.agg (srvPs 0 none none)) = True := eq_true ⟨_, _, rfl, rfl, rfl, rfl, rfl⟩
theorem built_srv : Built Tryz.prog 68 = True := eq_true (by unfold Built; rw [Tryz.underlying68]; decide +kernel)
def srvO (n : Int) (r j : Nat) : AObj := .cells (.agg (srvPs n (some (r, [])) (some (j, []))))
theorem SF.sub {σ0 s : AST} {j mi : Nat} {B : List Blob} {F G : List (Nat × AObj)} (h : SF σ0 s j mi B F) (hg : ∀ x ∈ G, x ∈ F) : SF σ0 s j mi B G := ⟨h.x, h.jn, h.mn, h.jm, h.o, h.om, fun x hx => h.f x (hg x hx)⟩
noncomputable def mineB (c : Int) (m : Msg) : Bool := if m.kind = 4 then m.blob.owner == c else if m.kind = 5 then true else m.client == c
theorem mine_c {c : Int} {m : Msg} {t u : Tk} {σ : AST} {K : AV → AST → Prop} (hK : K (.bool (mineB c m)) σ) : TCalls Tryz.prog 32 [.int .i64 c, msgV t u m] σ K := by
  refine TCalls.drop ?_
  have hfin : ∀ s' b, Ext σ s' → mineB c m = b → Ext σ s' ∧ (AV.bool b).noRef = true ∧ K (AV.bool b).strip σ := fun s' b hx he => ⟨hx, rfl, by rw [he] at hK; simpa [AV.strip] using hK⟩
  refine tcalls_walk Tryz.f32 _ [.tmp 4] Tryz.func32 rfl rfl rfl mixed (Nat.le_of_ble_eq_true rfl) rfl fun hlen => ?_
  by_cases h4 : m.kind = 4
  · repeat' (simp -dsimp only [↓reduceIte, go_sem, h4])
    exact hfin _ _ (Ext.app _ _) (by simp [mineB, h4])
  · by_cases h5 : m.kind = 5
    · repeat' (simp -dsimp only [↓reduceIte, go_sem, h4, h5])
      exact hfin _ _ (Ext.app _ _) (by simp [mineB, h5])
    · repeat' (first | (simp -dsimp only [↓reduceIte, go_sem, h4, h5]) | (refine guardV_split (fun h => ?_) (fun h => ?_) <;> (try rw [h]) <;> (try simp at h) <;> (try (exfalso; omega))) | fail)
      exact hfin _ _ (Ext.app _ _) (by simp [mineB, h4, h5])
attribute [local go_sem] msgSet_0 msgSet_1 msgSet_8 msgPs_9 msgAt_9 msgSet_9 sizes_msg shapes_msg fits_msg zero_msg zt_msg built_msg
attribute [local go_sem] fits31 zt3
attribute [local go_sem] fits28p fits22p fits76 srvPs_2 srvAt_2 Tryz.underlying48
def msgX (x : Tk × Tk × Msg) : AV := msgV x.1 x.2.1 x.2.2
theorem msgX_mk {t u : Tk} {m : Msg} : msgX (t, u, m) = msgV t u m := rfl
theorem E24s : ElemT Tryz.prog 46 9 1 16 := ⟨rfl, by kernel_rfl, by kernel_rfl, ⟨_, of_eq_true (eq_true ⟨_, _, rfl, rfl, rfl, rfl, rfl⟩ : ZeroOf Tryz.prog 9 (.str []) = True)⟩, by decide⟩
theorem E76 : ElemT Tryz.prog 48 42 275 488 := ⟨rfl, by kernel_rfl, by kernel_rfl, ⟨_, of_eq_true zt_msg⟩, by decide⟩
theorem E45i : ElemT Tryz.prog 40 3 1 8 := ⟨rfl, by kernel_rfl, by kernel_rfl, ⟨_, of_eq_true zt3⟩, by decide⟩
theorem size_strs {l : List (List UInt8)} : ∀ v ∈ l.map AV.str, v.size = 1 := by
  intro v hv; obtain ⟨x, _, rfl⟩ := List.mem_map.1 hv; rfl
theorem size_msgs {l : List (Tk × Tk × Msg)} : ∀ v ∈ l.map msgX, v.size = 275 := by
  intro v hv; obtain ⟨x, _, rfl⟩ := List.mem_map.1 hv; simp only [msgX, AV.size, sizes_msg]
theorem size_nums {l : List Int} : ∀ v ∈ l.map (AV.int .i64), v.size = 1 := by
  intro v hv; obtain ⟨x, _, rfl⟩ := List.mem_map.1 hv; rfl
theorem append_str {a : List (List UInt8)} {x : List UInt8} {tk tk2 : Tk} {σ : AST} {K : AV → AST → Prop} (hca : canApp σ tk a.length 1) (hl : a.length ≤ 5000) (hK : K (.slice (growT σ tk) ((a ++ [x]).map AV.str)) (growS σ tk (a.length + 1) 1)) :
    appendW Tryz.prog ⟨[46, 46]⟩ (.slice tk (a.map AV.str)) (.slice tk2 [.str x]) σ K := by
  refine append_slice E24s rfl (by rw [List.length_map]; exact hca) (by intro v hv; simp at hv; subst hv; rfl) size_strs (by simp; omega) (by simp [maxL]; omega) ?_
  simpa using hK
theorem append_msg {a : List (Tk × Tk × Msg)} {t u : Tk} {m : Msg} {tk tk2 : Tk} {σ : AST} {K : AV → AST → Prop} (hca : canApp σ tk a.length 275) (hl : a.length ≤ 5000) (hK : K (.slice (growT σ tk) ((a ++ [(t, u, m)]).map msgX)) (growS σ tk (a.length + 1) 275)) :
    appendW Tryz.prog ⟨[48, 48]⟩ (.slice tk (a.map msgX)) (.slice tk2 [msgV t u m]) σ K := by
  refine append_slice E76 rfl (by rw [List.length_map]; exact hca) (by intro v hv; simp at hv; subst hv; simp only [AV.size, sizes_msg]) size_msgs (by simp; omega) (by simp [maxL]; omega) ?_
  simpa [msgX] using hK
theorem append_num {a : List Int} {x : Int} {tk tk2 : Tk} {σ : AST} {K : AV → AST → Prop} (hca : canApp σ tk a.length 1) (hl : a.length ≤ 5000) (hK : K (.slice (growT σ tk) ((a ++ [x]).map (AV.int .i64))) (growS σ tk (a.length + 1) 1)) :
    appendW Tryz.prog ⟨[40, 40]⟩ (.slice tk (a.map (AV.int .i64))) (.slice tk2 [.int .i64 x]) σ K := by
  refine append_slice E45i rfl (by rw [List.length_map]; exact hca) (by intro v hv; simp at hv; subst hv; rfl) size_nums (by simp; omega) (by simp [maxL]; omega) ?_
  simpa using hK
open Classical in
noncomputable def sentL (L : List (Tk × Tk × Msg)) : List (List UInt8) := (L.filter fun x => decide x.2.2.Ok).map (·.2.2.bytes)
theorem sentL_next {L : List (Tk × Tk × Msg)} {i : Nat} {x : Tk × Tk × Msg} (h : L[i]? = some x) : sentL (L.take (i + 1)) = sentL (L.take i) ++ (if x.2.2.Ok then [x.2.2.bytes] else []) := by
  have hi := (List.getElem?_eq_some_iff.1 h).1
  have e : L.take (i + 1) = L.take i ++ [x] := by rw [← (List.getElem?_eq_some_iff.1 h).2]; exact (List.take_append_getElem hi).symm
  rw [e]
  by_cases hx : x.2.2.Ok
  · simp [sentL, hx]
  · simp [sentL, hx]
theorem sentL_len {L : List (Tk × Tk × Msg)} : (sentL L).length ≤ L.length := by unfold sentL; rw [List.length_map]; exact List.length_filter_le ..
theorem send_c {L : List (Tk × Tk × Msg)} {tq : Tk} {σ : AST} {K : AV → AST → Prop} (hl : L.length ≤ 1000) (hK : ∀ s' t, Ext σ s' → K (.slice t ((sentL L).map AV.str)) s') : TCalls Tryz.prog 76 [.slice tq (L.map msgX)] σ K := by
  refine tcalls_walk Tryz.f76 _ [.tmp 2] Tryz.func76 rfl rfl rfl mixed (Nat.le_of_ble_eq_true rfl) rfl fun hlen => ?_
  repeat' (first | (simp -dsimp only [↓reduceIte, go_sem]) | (refine arr_intro fun _ => ?_) | fail)
  refine awp_rounds (fun (i : Nat) τ s => ∃ tk, i ≤ L.length ∧ Gr σ s tk (sentL (L.take i)).length ∧ τ 3 = .slice tk ((sentL (L.take i)).map AV.str) ∧ τ 8 = .slice tq (L.map msgX) ∧ τ 9 = .int .i64 L.length ∧ τ 10 = .int .i64 i) (fun i => L.length - i) 0 ?_ ?_
  · refine ⟨.full, by omega, Gr.start, ?_, ?_, ?_, ?_⟩ <;> (try simp only [go_sem]) <;> (try rfl)
  · rintro i τ s ⟨tk, hi, hg, t3, t8, t9, t10⟩
    by_cases hlt : i < L.length
    · have hlt1 : (i : Int) < L.length := by omega
      obtain ⟨x, hx⟩ : ∃ x, L[i]? = some x := ⟨_, List.getElem?_eq_getElem hlt⟩
      obtain ⟨t, u, m⟩ := x
      have hnx := sentL_next hx
      have hsl := sentL_len (L := L.take i)
      rw [List.length_take] at hsl
      have w1 : IntKind.i64.wrap ((i : Int) + 1) = (i : Int) + 1 := wrap_i64 (by omega) (by omega)
      have hga := fun l => hg.app (l := l)
      simp only at hnx
      repeat' (first | (simp -dsimp only [↓reduceIte, go_sem, t3, t8, t9, t10, hlt1, w1, msgX_mk]) | (refine nth_get hx ?_) | fail)
      refine put_c ?_
      by_cases hok : m.Ok
      · rw [if_pos hok] at hnx ⊢
        repeat' (first | (simp -dsimp only [↓reduceIte, go_sem, t3, t8, t9, t10, w1]) | (refine build_slice E24s rfl (by decide) (by intro v hv; simp at hv; subst hv; simp [go_sem]) ?_) | (refine append_str (hga _).c (by omega) ?_) | fail)
        have h2 := (hga [.cells (msgV t u m)]).grow (m := (sentL (L.take i)).length + 1)
        refine later_intro ⟨i + 1, by omega, growT (s.app [.cells (msgV t u m)]) tk, by omega, ?_, ?_, ?_, ?_, ?_⟩ <;> (try simp only [go_sem, t3, t8, t9, t10, hnx]) <;> (try rfl)
        rw [List.length_append]; exact h2
      · rw [if_neg hok] at hnx ⊢
        rw [List.append_nil] at hnx
        repeat' (simp -dsimp only [↓reduceIte, go_sem, t3, t8, t9, t10, w1])
        refine later_intro ⟨i + 1, by omega, tk, by omega, ?_, ?_, ?_, ?_, ?_⟩ <;> (try simp only [go_sem, t3, t8, t9, t10, hnx]) <;> (try rfl)
        exact hga _
    · obtain rfl : i = L.length := by omega
      have hlt1 : ¬ ((L.length : Nat) : Int) < L.length := by omega
      rw [List.take_length] at t3
      repeat' (simp -dsimp only [↓reduceIte, go_sem, t3, t8, t9, t10, hlt1])
      exact hK _ _ hg.x
end Go.Aff.L10

namespace Go.Aff.L10
open Go.Proofs Go.Aff Go.Aff.L01 Classical
set_option maxRecDepth 20000
attribute [-go_sem] cellAt_new
attribute [-simp] List.length_flatMap
attribute [local go_sem] Tryz.underlying40 sizes_blob shapes_blob fits_blob zero_blob zt_blob msgPs_0 msgAt_0 msgSet_0 msgPs_1 msgAt_1 msgSet_1 msgPs_8 msgAt_8 msgSet_8 msgPs_9 msgAt_9 msgSet_9 sizes_msg shapes_msg fits_msg zero_msg zt_msg built_msg Tryz.underlying42
attribute [local go_sem] fits3 fits9 fits31 zt3
attribute [local go_sem] fits28p fits22p fits76 srvPs_2 srvAt_2 Tryz.underlying68 Tryz.underlying48
theorem objs_setSZ {s : AST} {k : Nat} {o : AObj} (h : k < s.objs.length) : (s.set k o).objs[k]? = some o := by simp only [AST.set]; rw [List.getElem?_set_self h]
theorem objs_setNZ {s : AST} {j k : Nat} {o : AObj} (h : j ≠ k) : (s.set j o).objs[k]? = s.objs[k]? := by simp only [AST.set]; rw [List.getElem?_set_ne h]
theorem canApp_keepZ {s s' : AST} {tk : Tk} {n e : Nat} (h : Ext s s') (hc : canApp s tk n e) : canApp s' tk n e := by
  obtain ⟨O, T, rfl⟩ := h
  cases tk with
  | full => trivial
  | own k => simp only [canApp] at hc ⊢; rw [List.getElem?_append_left (List.getElem?_eq_some_iff.1 hc).1]; exact hc
  | none => exact hc.elim
  | lit => exact hc.elim
def noneM (c : Int) (N : List Int) : Msg := { msg0 with kind := 7, client := c, nums := N }
def foundM (b : Blob) : Msg := { msg0 with kind := 6, blob := b }
structure GS (σ0 s : AST) (c3 c4 : Nat) (cl : Int) (N : List Int) (L : List (Tk × Tk × Msg)) : Prop where
  x : Ext σ0 s
  d : c3 ≠ c4
  n3 : σ0.objs.length ≤ c3
  n4 : σ0.objs.length ≤ c4
  o : ∃ tn tf, s.objs[c3]? = some (.cells (msgV .full tn (noneM cl N))) ∧ s.objs[c4]? = some (.cells (.slice tf (L.map msgX))) ∧ tkNew σ0 tn ∧ tkNew σ0 tf ∧ apart tn tf ∧ canApp s tn N.length 1 ∧ canApp s tf L.length 275
theorem GS.ext {σ0 s s' : AST} {c3 c4 : Nat} {cl : Int} {N : List Int} {L : List (Tk × Tk × Msg)} (h : GS σ0 s c3 c4 cl N L) (e : Ext s s') : GS σ0 s' c3 c4 cl N L := by
  obtain ⟨tv, ta, a, b, c, d, f, g, k⟩ := h.o
  exact ⟨h.x.trans e, h.d, h.n3, h.n4, tv, ta, ext_knownB e a, ext_knownB e b, c, d, f, canApp_keepZ e g, canApp_keepZ e k⟩
theorem get1_c {σ0 σ1 s : AST} {n0 : Int} {j mi q r c1 c2 c3 c4 : Nat} {B : List Blob} {t u : Tk} {m : Msg} {N : List Int} {L : List (Tk × Tk × Msg)} {n : Int} {K : AV → AST → Prop}
    (hS : SF σ0 σ1 j mi B [(q, srvO n0 r j), (c1, .cells (.ptr (some (q, [])))), (c2, .cells (msgV t u m))]) (h : GS σ1 s c3 c4 m.client N L) (hN : N.length ≤ 1000) (hL : L.length ≤ 1000)
    (hK1 : ∀ s', bgot B m.client n = none → GS σ1 s' c3 c4 m.client (N ++ [n]) L → K (.tuple []) s')
    (hK2 : ∀ s' b, bgot B m.client n = some b → GS σ1 s' c3 c4 m.client N (L ++ [(.full, .full, foundM b)]) → K (.tuple []) s') :
    TCalls Tryz.prog 74 [.int .i64 n, .ptr (some (c1, [])), .ptr (some (c2, [])), .ptr (some (c3, [])), .ptr (some (c4, []))] s K := by
  have hS1 := hS.ext h.x
  have oq := (hS1.f _ (List.mem_cons_self ..)).2.2
  have o1 := (hS1.less.f _ (List.mem_cons_self ..)).2.2
  have o2 := (hS1.less.less.f _ (List.mem_cons_self ..)).2.2
  dsimp only at oq o1 o2
  have cq := cellAt_known oq
  have k1 := cellAt_known o1
  have k2 := cellAt_known o2
  refine tcalls_walk Tryz.f74 _ [] Tryz.func74 rfl rfl rfl mixed (Nat.le_of_ble_eq_true rfl) rfl fun hlen => ?_
  have oqA := fun l => objs_known_app oq l
  have o1A := fun l => objs_known_app o1 l
  have o2A := fun l => objs_known_app o2 l
  cases hb : bgot B m.client n with
  | none =>
    repeat' (first | (simp -dsimp only [↓reduceIte, go_sem, cq, k1, k2]) | (refine both_ways ?_ ?_) | (with_reducible refine awp_drawU (id := 0) (.op 0 0 (.op 1 0 (.op 2 0 (.op 3 0 (.op 4 0 (.op 5 0 (.op 6 0 (.fork 7 (.op 7 1 (.op 8 0 (.op 9 0 (.op 10 0 (.op 11 1 (.op 12 1 (.op 13 2 .nil))))))) (.op 11 1 (.cut (.op 7 1 (.op 8 2 (.op 9 2 (.op 10 0 (.op 12 1 (.op 13 2 .nil)))))))))))))))) (by kernel_rfl) ?_) | (with_reducible refine keeps_go ?_ ?_; focus (simp [keeps_cons, keeps_none, objs_app, objs_app0, oq, o1, o2, oqA, o1A, o2A]; done)) | fail)
    case refine_1 =>
      refine sget_c hS1 fun s2 hx2 => ?_
      rw [hb]
      have oq2 := ext_knownB hx2 oq
      have o12 := ext_knownB hx2 o1
      have o22 := ext_knownB hx2 o2
      have oq3 := fun l => objs_known_app oq2 l
      have o13 := fun l => objs_known_app o12 l
      have o23 := fun l => objs_known_app o22 l
      have h2 := h.ext (hx2.trans (Ext.app s2 [.cells (.agg (blobPs blob0))]))
      have hbx : (s2.app [.cells (.agg (blobPs blob0))]).objs[s2.objs.length]? = some (.cells (.agg (blobPs blob0))) := by rw [objs_app0]; rfl
      repeat' (first | (simp -dsimp only [↓reduceIte, go_sem]) | (refine later_intro ⟨keeps_refl, ?_⟩) | (with_reducible refine keeps_go ?_ ?_; focus (simp [keeps_cons, keeps_none, objs_app, objs_app0, oq, o1, o2, oq2, o12, o22, oq3, o13, o23]; done)) | fail)
      clear oq3 o13 o23
      generalize s2.app [.cells (.agg (blobPs blob0))] = s3 at *
      obtain ⟨tn, tf, p3, p4, w1, w2, ap, a1, a2⟩ := h2.o
      have hx3 := h2.x
      have q3 := cellAt_known p3
      have hl3 := cell_ltB p3
      have g3 : ∀ n, (growS s3 tn n 1).objs[c3]? = some (.cells (msgV .full tn (noneM m.client N))) := fun n => by rw [growS_objs]; exact p3
      have g4 := fun n => cellAt_known (g3 n)
      repeat' (first | (simp -dsimp only [↓reduceIte, go_sem, q3, g3, g4]) | (refine build_slice E45i rfl (by decide) (by intro v hv; simp at hv; subst hv; simp [go_sem]) ?_) | (refine append_num a1 (Nat.le_trans hN (by decide)) ?_) | fail)
      refine hK1 _ hb ⟨(hx3.grow w1).set h.n3, h.d, h.n3, h.n4, growT s3 tn, tf, objs_setSZ (by rw [growS_objs]; exact hl3), by rw [objs_setNZ h.d, growS_objs]; exact p4, w1.grow hx3, w2, apart_grow ap a2, ?_, by rw [canApp_set]; exact canApp_apart ap a2⟩
      rw [canApp_set, List.length_append]; exact canApp_grow a1
    case refine_2 =>
      refine sget_c (hS1.ext (Ext.app s [.cells (.agg (blobPs blob0))])) fun s2 hx2 => ?_
      rw [hb]
      have oq2 := ext_knownB hx2 (oqA _)
      have o12 := ext_knownB hx2 (o1A _)
      have o22 := ext_knownB hx2 (o2A _)
      have hb0 : s2.objs[s.objs.length]? = some (.cells (.agg (blobPs blob0))) := ext_knownB hx2 (by rw [objs_app0]; rfl)
      have cb0 := cellAt_known hb0
      have hlb := cell_ltB hb0
      have h2 := h.ext (((Ext.app s [.cells (.agg (blobPs blob0))]).trans hx2).set (o := .cells (.agg (blobPs blob0))) (Nat.le_refl s.objs.length))
      have hbx : (s2.set s.objs.length (.cells (.agg (blobPs blob0)))).objs[s.objs.length]? = some (.cells (.agg (blobPs blob0))) := objs_setSZ hlb
      repeat' (first | (simp -dsimp only [↓reduceIte, go_sem, hb0, cb0]) | (refine later_intro ⟨keeps_nil, ?_⟩) | fail)
      generalize s2.set s.objs.length (.cells (.agg (blobPs blob0))) = s3 at *
      obtain ⟨tn, tf, p3, p4, w1, w2, ap, a1, a2⟩ := h2.o
      have hx3 := h2.x
      have q3 := cellAt_known p3
      have hl3 := cell_ltB p3
      have g3 : ∀ n, (growS s3 tn n 1).objs[c3]? = some (.cells (msgV .full tn (noneM m.client N))) := fun n => by rw [growS_objs]; exact p3
      have g4 := fun n => cellAt_known (g3 n)
      repeat' (first | (simp -dsimp only [↓reduceIte, go_sem, q3, g3, g4]) | (refine build_slice E45i rfl (by decide) (by intro v hv; simp at hv; subst hv; simp [go_sem]) ?_) | (refine append_num a1 (Nat.le_trans hN (by decide)) ?_) | fail)
      refine hK1 _ hb ⟨(hx3.grow w1).set h.n3, h.d, h.n3, h.n4, growT s3 tn, tf, objs_setSZ (by rw [growS_objs]; exact hl3), by rw [objs_setNZ h.d, growS_objs]; exact p4, w1.grow hx3, w2, apart_grow ap a2, ?_, by rw [canApp_set]; exact canApp_apart ap a2⟩
      rw [canApp_set, List.length_append]; exact canApp_grow a1
  | some b =>
    repeat' (first | (simp -dsimp only [↓reduceIte, go_sem, cq, k1, k2]) | (refine both_ways ?_ ?_) | (with_reducible refine awp_drawU (id := 0) (.op 0 0 (.op 1 0 (.op 2 0 (.op 3 0 (.op 4 0 (.op 5 0 (.op 6 0 (.fork 7 (.op 7 1 (.op 8 0 (.op 9 0 (.op 10 0 (.op 11 1 (.op 12 1 (.op 13 2 .nil))))))) (.op 11 1 (.cut (.op 7 1 (.op 8 2 (.op 9 2 (.op 10 0 (.op 12 1 (.op 13 2 .nil)))))))))))))))) (by kernel_rfl) ?_) | (with_reducible refine keeps_go ?_ ?_; focus (simp [keeps_cons, keeps_none, objs_app, objs_app0, oq, o1, o2, oqA, o1A, o2A]; done)) | fail)
    case refine_1 =>
      refine sget_c hS1 fun s2 hx2 => ?_
      rw [hb]
      have oq2 := ext_knownB hx2 oq
      have o12 := ext_knownB hx2 o1
      have o22 := ext_knownB hx2 o2
      have oq3 := fun l => objs_known_app oq2 l
      have o13 := fun l => objs_known_app o12 l
      have o23 := fun l => objs_known_app o22 l
      have h2 := h.ext (hx2.trans (Ext.app s2 [.cells (.agg (blobPs b))]))
      have hbx : (s2.app [.cells (.agg (blobPs b))]).objs[s2.objs.length]? = some (.cells (.agg (blobPs b))) := by rw [objs_app0]; rfl
      repeat' (first | (simp -dsimp only [↓reduceIte, go_sem]) | (with_reducible refine keeps_go ?_ ?_; focus (simp [keeps_cons, keeps_none, objs_app, objs_app0, oq, o1, o2, oq2, o12, o22, oq3, o13, o23]; done)) | fail)
      clear oq3 o13 o23
      generalize s2.app [.cells (.agg (blobPs b))] = s3 at *
      obtain ⟨tn, tf, p3, p4, w1, w2, ap, a1, a2⟩ := h2.o
      have hx3 := h2.x
      have q4 := cellAt_known p4
      have hl4 := cell_ltB p4
      have g3 : ∀ n, (growS s3 tf n 275).objs[c4]? = some (.cells (.slice tf (L.map msgX))) := fun n => by rw [growS_objs]; exact p4
      have g4 := fun n => cellAt_known (g3 n)
      have cbx := cellAt_known hbx
      have hfm : ({ kind := 6, client := msg0.client, sub := msg0.sub, rep := msg0.rep, view := msg0.view, by_ := msg0.by_, tag := msg0.tag, own := msg0.own, blob := b, nums := msg0.nums } : Msg) = foundM b := rfl
      repeat' (first | (simp -dsimp only [↓reduceIte, go_sem, q4, g3, g4, cbx, hfm]) | (refine build_slice E76 rfl (by decide) (by intro v hv; simp at hv; subst hv; simp [go_sem]) ?_) | (refine append_msg a2 (Nat.le_trans hL (by decide)) ?_) | fail)
      refine hK2 _ b hb ⟨(hx3.grow (n := L.length + 1) (es := 275) w2).set (o := .cells (.slice (growT s3 tf) ((L ++ [(Tk.full, Tk.full, foundM b)]).map msgX))) h.n4, h.d, h.n3, h.n4, tn, growT s3 tf, by rw [objs_setNZ (Ne.symm h.d)]; rw [growS_objs]; exact p3, objs_setSZ (by rw [growS_objs]; exact hl4), w1, w2.grow hx3, (apart_grow ap.symm a1).symm, by rw [canApp_set]; exact canApp_apart ap.symm a1, ?_⟩
      rw [canApp_set, List.length_append]; exact canApp_grow a2
    case refine_2 =>
      refine sget_c (hS1.ext (Ext.app s [.cells (.agg (blobPs blob0))])) fun s2 hx2 => ?_
      rw [hb]
      have oq2 := ext_knownB hx2 (oqA _)
      have o12 := ext_knownB hx2 (o1A _)
      have o22 := ext_knownB hx2 (o2A _)
      have hb0 : s2.objs[s.objs.length]? = some (.cells (.agg (blobPs blob0))) := ext_knownB hx2 (by rw [objs_app0]; rfl)
      have cb0 := cellAt_known hb0
      have hlb := cell_ltB hb0
      have h2 := h.ext (((Ext.app s [.cells (.agg (blobPs blob0))]).trans hx2).set (o := .cells (.agg (blobPs b))) (Nat.le_refl s.objs.length))
      have hbx : (s2.set s.objs.length (.cells (.agg (blobPs b)))).objs[s.objs.length]? = some (.cells (.agg (blobPs b))) := objs_setSZ hlb
      repeat' (first | (simp -dsimp only [↓reduceIte, go_sem, hb0, cb0]) | (refine later_intro ⟨keeps_nil, ?_⟩) | fail)
      generalize s2.set s.objs.length (.cells (.agg (blobPs b))) = s3 at *
      obtain ⟨tn, tf, p3, p4, w1, w2, ap, a1, a2⟩ := h2.o
      have hx3 := h2.x
      have q4 := cellAt_known p4
      have hl4 := cell_ltB p4
      have g3 : ∀ n, (growS s3 tf n 275).objs[c4]? = some (.cells (.slice tf (L.map msgX))) := fun n => by rw [growS_objs]; exact p4
      have g4 := fun n => cellAt_known (g3 n)
      have cbx := cellAt_known hbx
      have hfm : ({ kind := 6, client := msg0.client, sub := msg0.sub, rep := msg0.rep, view := msg0.view, by_ := msg0.by_, tag := msg0.tag, own := msg0.own, blob := b, nums := msg0.nums } : Msg) = foundM b := rfl
      repeat' (first | (simp -dsimp only [↓reduceIte, go_sem, q4, g3, g4, cbx, hfm]) | (refine build_slice E76 rfl (by decide) (by intro v hv; simp at hv; subst hv; simp [go_sem]) ?_) | (refine append_msg a2 (Nat.le_trans hL (by decide)) ?_) | fail)
      refine hK2 _ b hb ⟨(hx3.grow (n := L.length + 1) (es := 275) w2).set (o := .cells (.slice (growT s3 tf) ((L ++ [(Tk.full, Tk.full, foundM b)]).map msgX))) h.n4, h.d, h.n3, h.n4, tn, growT s3 tf, by rw [objs_setNZ (Ne.symm h.d)]; rw [growS_objs]; exact p3, objs_setSZ (by rw [growS_objs]; exact hl4), w1, w2.grow hx3, (apart_grow ap.symm a1).symm, by rw [canApp_set]; exact canApp_apart ap.symm a1, ?_⟩
      rw [canApp_set, List.length_append]; exact canApp_grow a2
end Go.Aff.L10

