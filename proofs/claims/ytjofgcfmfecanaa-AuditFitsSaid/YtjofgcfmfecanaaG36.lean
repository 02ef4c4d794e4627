import Derived.Test.YtjofgcfmfecanaaG29
import Derived.Test.YtjofgcfmfecanaaG19
import Derived.Test.YtjofgcfmfecanaaG35

set_option linter.unusedSimpArgs false
set_option linter.unusedVariables false

/- Layer 32: what was laid is read back. -/
namespace Go.Aff.L10
open Go.Proofs Go.Aff Go.Aff.L01 Classical
set_option linter.unusedVariables false
set_option linter.unusedSimpArgs false
set_option maxRecDepth 20000

def rdAt (x y : List UInt8) : Rdr := ⟨x ++ y, x.length, 0⟩
theorem int_back {x y : List UInt8} {n : Int} (h0 : -9223372036854775808 ≤ n) (h1 : n ≤ 9223372036854775807) : (rdAt x (numS n ++ y)).int = (n, rdAt (x ++ numS n) y) := by
  have h := num_back (x := x) (y := y) h0 h1
  have h2 : numR (x ++ (numS n ++ y)) (x.length : Int) = (n, ((x.length + (numS n).length : Nat) : Int), 0) := by
    rw [numR_nat (by simp)]; exact h
  simp only [rdAt, Rdr.int, h2]
  simp [List.append_assoc]
theorem rtext_back {x y t : List UInt8} (ht : t.length ≤ 16384) : (rdAt x (textS t ++ y)).text = (t, rdAt (x ++ textS t) y) := by
  have h := text_back (x := x) (y := y) (t := t) (by omega)
  have h2 : textR (x ++ (textS t ++ y)) (x.length : Int) = (t, ((x.length + (textS t).length : Nat) : Int), 0) := by
    rw [textR_nat (by simp)]; exact h
  simp only [rdAt, Rdr.text, h2]
  simp [List.append_assoc]
theorem digOf_l (d : Dig) : digOf d.l = (d, 0) := by unfold digOf; rw [dif_pos d.h]
theorem rdig_back {x y : List UInt8} {d : Dig} : (rdAt x (digS d ++ y)).dig = (d, rdAt (x ++ digS d) y) := by
  have h := rtext_back (x := x) (y := y) (t := d.l) (by rw [d.h]; omega)
  simp only [Rdr.dig, digS, h, digOf_l]
  simp
theorem rints_back {x y : List UInt8} {l : List Int} (h : InI l) (hl : ¬ 512 < l.length) : (rdAt x (laidAll numS l ++ y)).ints = (l, rdAt (x ++ laidAll numS l) y) := by
  have h2 := ints_back (x := x) (y := y) h hl
  simp only [rdAt, Rdr.ints, intsR, h2]
  simp [List.append_assoc]
def Rng (n : Int) : Prop := -9223372036854775808 ≤ n ∧ n ≤ 9223372036854775807
theorem int_back' {x y : List UInt8} {n : Int} (h : Rng n) : (rdAt x (numS n ++ y)).int = (n, rdAt (x ++ numS n) y) := int_back h.1 h.2
theorem pend_back {x y : List UInt8} {p : Pend} (hp : p.Ok) : (rdAt x (pendB p ++ y)).pend = (p, rdAt (x ++ pendB p) y) := by
  obtain ⟨h1, h2, h3, h4⟩ := hp
  simp only [In] at h1 h2 h3 h4
  have a1 : Rng p.client := ⟨by omega, by omega⟩
  have a2 : Rng p.num := ⟨by omega, by omega⟩
  have a3 : Rng p.kind := ⟨by omega, by omega⟩
  have a4 : Rng p.target := ⟨by omega, by omega⟩
  have e : pendB p ++ y = numS p.client ++ (numS p.num ++ (numS p.kind ++ (numS p.target ++ (digS p.asked ++ (digS p.proof ++ y))))) := by simp [pendB]
  rw [e]
  simp only [Rdr.pend, int_back' a1, int_back' a2, int_back' a3, int_back' a4, rdig_back]
  simp [pendB, List.append_assoc]
theorem pends_back : ∀ {l : List Pend} {x y : List UInt8}, (∀ p ∈ l, p.Ok) → Rdr.pends l.length (rdAt x (l.flatMap pendB ++ y)) = (l, rdAt (x ++ l.flatMap pendB) y)
  | [], x, y, _ => by simp [Rdr.pends]
  | p :: l, x, y, h => by
    have h1 := pend_back (x := x) (y := l.flatMap pendB ++ y) (h p (List.mem_cons_self ..))
    have h2 := pends_back (l := l) (x := x ++ pendB p) (y := y) (fun q hq => h q (List.mem_cons_of_mem _ hq))
    have e0 : (rdAt x ((p :: l).flatMap pendB ++ y)).e = 0 := rfl
    rw [List.length_cons, Rdr.pends, if_neg (by rw [e0]; decide)]
    rw [List.flatMap_cons, List.append_assoc, h1]
    simp only [h2]
    simp [List.append_assoc]
theorem rep_back {x y : List UInt8} {a : Rep} (hok : a.Ok) : (rdAt x (ansB a ++ y)).rep = (a, rdAt (x ++ ansB a) y) := by
  obtain ⟨hp, h1, h2, h3, h4, h5, h6, h7, h8⟩ := hok
  simp only [In, ViewOk] at h1 h2 h5 h6 h7
  have a1 : Rng a.num := ⟨by omega, by omega⟩
  have a2 : Rng a.last := ⟨by omega, by omega⟩
  have a3 : Rng (a.pending.length : Int) := ⟨by omega, by omega⟩
  have a4 : Rng a.vnum := ⟨by omega, by omega⟩
  have t1 : a.view.length ≤ 16384 := by omega
  have t2 : a.value.length ≤ 16384 := by omega
  have t3 : a.seen.length ≤ 16384 := by omega
  have hin : In 0 8 (a.pending.length : Int) := ⟨by omega, by omega⟩
  have e : ansB a ++ y = numS a.num ++ (numS a.last ++ (textS a.view ++ (digS a.commit ++ (numS (a.pending.length : Int) ++ (a.pending.flatMap pendB ++ (numS a.vnum ++ (textS a.value ++ (digS a.data ++ (textS a.seen ++ (digS a.seenTag ++ y)))))))))) := by simp [ansB]
  rw [e]
  have e0 : ∀ x y, (rdAt x y).e = 0 := fun _ _ => rfl
  simp only [Rdr.rep, Rdr.rep1, Rdr.rep2, int_back' a1, int_back' a2, int_back' a3, rtext_back t1, rdig_back, hin, not_true_eq_false, and_false, if_false, Int.toNat_natCast, pends_back hp, int_back' a4, rtext_back t2, rtext_back t3]
  simp [ansB, List.append_assoc, rep0]
theorem fields_back {m : Msg} (hok : m.Ok) {x y : List UInt8} : (rdAt x (m.rest ++ y)).fields (getM m.kind m.client) = (m, rdAt (x ++ m.rest) y) := by
  have hk := hok.kinds
  have ho := hok.2.2
  have hm : m = ⟨m.kind, m.client, m.sub, m.rep, m.view, m.by_, m.tag, m.own, m.blob, m.nums⟩ := rfl
  rcases hk with ⟨hq, hs⟩ | ⟨hq, hs⟩ | ⟨hq, hs⟩ | ⟨hq, hs⟩ | ⟨hq, hs⟩ | ⟨hq, hs⟩ | ⟨hq, hs⟩ | ⟨hq, hs⟩ | hq | ⟨hq, hs⟩ | hq
  all_goals
    simp only [Msg.own_, hq] at ho
    simp only [Msg.iff] at ho
    simp [msg0] at ho
    obtain ⟨_, ho⟩ := ho
  · obtain ⟨o1, o2, o3, o4⟩ := hs
    simp only [In] at o1 o2 o3
    have a1 : Rng m.sub.num := ⟨by omega, by omega⟩
    have a2 : Rng m.sub.kind := ⟨by omega, by omega⟩
    have a3 : Rng m.sub.target := ⟨by omega, by omega⟩
    have t1 : m.sub.value.length ≤ 16384 := by omega
    have e : m.rest ++ y = numS m.sub.num ++ (numS m.sub.kind ++ (numS m.sub.target ++ (textS m.sub.value ++ (digS m.sub.asked ++ (digS m.sub.data ++ (y)))))) := by simp [Msg.rest, hq, subB, blobB]
    rw [e]
    simp only [Rdr.fields, getM, hq, Int.reduceEq, if_true, if_false, or_self, or_true, true_or, false_or, or_false, int_back' a1, int_back' a2, int_back' a3, rtext_back t1, rdig_back]
    refine Prod.ext ?_ ?_
    · simp [Msg.iff, hq]; grind
    · simp [Msg.rest, hq, subB, blobB, List.append_assoc]
  · have h0 := hs
    have e : m.rest ++ y = ansB m.rep ++ (y) := by simp [Msg.rest, hq, subB, blobB]
    rw [e]
    simp only [Rdr.fields, getM, hq, Int.reduceEq, if_true, if_false, or_self, or_true, true_or, false_or, or_false, rep_back hs]
    refine Prod.ext ?_ ?_
    · simp [Msg.iff, hq]; grind
    · simp [Msg.rest, hq, subB, blobB, List.append_assoc]
  · obtain ⟨_, _, v1, _⟩ := hs
    have t1 : m.view.length ≤ 16384 := by omega
    have e : m.rest ++ y = textS m.view ++ (digS m.tag ++ (y)) := by simp [Msg.rest, hq, subB, blobB]
    rw [e]
    simp only [Rdr.fields, getM, hq, Int.reduceEq, if_true, if_false, or_self, or_true, true_or, false_or, or_false, rtext_back t1, rdig_back]
    refine Prod.ext ?_ ?_
    · simp [Msg.iff, hq]; grind
    · simp [Msg.rest, hq, subB, blobB, List.append_assoc]
  · obtain ⟨o1, o2, o3⟩ := hs
    simp only [In] at o1 o2
    have a1 : Rng m.blob.owner := ⟨by omega, by omega⟩
    have a2 : Rng m.blob.num := ⟨by omega, by omega⟩
    have t1 : m.blob.cipher.length ≤ 16384 := by omega
    have e : m.rest ++ y = numS m.blob.owner ++ (numS m.blob.num ++ (textS m.blob.cipher ++ (digS m.blob.tag ++ (y)))) := by simp [Msg.rest, hq, subB, blobB]
    rw [e]
    simp only [Rdr.fields, getM, hq, Int.reduceEq, if_true, if_false, or_self, or_true, true_or, false_or, or_false, int_back' a1, int_back' a2, rtext_back t1, rdig_back]
    refine Prod.ext ?_ ?_
    · simp [Msg.iff, hq]; grind
    · simp [Msg.rest, hq, subB, blobB, List.append_assoc]
  · have i1 := hs.in_
    have i2 : ¬ 512 < m.nums.length := by have := hs.2; simp only [In] at this; omega
    have e : m.rest ++ y = laidAll numS m.nums ++ (y) := by simp [Msg.rest, hq, subB, blobB]
    rw [e]
    simp only [Rdr.fields, getM, hq, Int.reduceEq, if_true, if_false, or_self, or_true, true_or, false_or, or_false, rints_back i1 i2]
    refine Prod.ext ?_ ?_
    · simp [Msg.iff, hq]; grind
    · simp [Msg.rest, hq, subB, blobB, List.append_assoc]
  · obtain ⟨o1, o2, o3⟩ := hs
    simp only [In] at o1 o2
    have a1 : Rng m.blob.owner := ⟨by omega, by omega⟩
    have a2 : Rng m.blob.num := ⟨by omega, by omega⟩
    have t1 : m.blob.cipher.length ≤ 16384 := by omega
    have e : m.rest ++ y = numS m.blob.owner ++ (numS m.blob.num ++ (textS m.blob.cipher ++ (digS m.blob.tag ++ (y)))) := by simp [Msg.rest, hq, subB, blobB]
    rw [e]
    simp only [Rdr.fields, getM, hq, Int.reduceEq, if_true, if_false, or_self, or_true, true_or, false_or, or_false, int_back' a1, int_back' a2, rtext_back t1, rdig_back]
    refine Prod.ext ?_ ?_
    · simp [Msg.iff, hq]; grind
    · simp [Msg.rest, hq, subB, blobB, List.append_assoc]
  · have i1 := hs.in_
    have i2 : ¬ 512 < m.nums.length := by have := hs.2; simp only [In] at this; omega
    have e : m.rest ++ y = laidAll numS m.nums ++ (y) := by simp [Msg.rest, hq, subB, blobB]
    rw [e]
    simp only [Rdr.fields, getM, hq, Int.reduceEq, if_true, if_false, or_self, or_true, true_or, false_or, or_false, rints_back i1 i2]
    refine Prod.ext ?_ ?_
    · simp [Msg.iff, hq]; grind
    · simp [Msg.rest, hq, subB, blobB, List.append_assoc]
  · have i1 := hs.in_
    have i2 : ¬ 512 < m.nums.length := by have := hs.2; simp only [In] at this; omega
    have e : m.rest ++ y = laidAll numS m.nums ++ (y) := by simp [Msg.rest, hq, subB, blobB]
    rw [e]
    simp only [Rdr.fields, getM, hq, Int.reduceEq, if_true, if_false, or_self, or_true, true_or, false_or, or_false, rints_back i1 i2]
    refine Prod.ext ?_ ?_
    · simp [Msg.iff, hq]; grind
    · simp [Msg.rest, hq, subB, blobB, List.append_assoc]
  · have h0 := hq
    have e : m.rest ++ y = y := by simp [Msg.rest, hq, subB, blobB]
    rw [e]
    simp only [Rdr.fields, getM, hq, Int.reduceEq, if_true, if_false, or_self, or_true, true_or, false_or, or_false, rdig_back]
    refine Prod.ext ?_ ?_
    · simp [Msg.iff, hq]; grind
    · simp [Msg.rest, hq, subB, blobB, List.append_assoc]
  · obtain ⟨o1, _, _, v1, _⟩ := hs
    simp only [In] at o1
    have a1 : Rng m.by_ := ⟨by omega, by omega⟩
    have t1 : m.view.length ≤ 16384 := by omega
    have e : m.rest ++ y = numS m.by_ ++ (textS m.view ++ (digS m.tag ++ (digS m.own ++ (y)))) := by simp [Msg.rest, hq, subB, blobB]
    rw [e]
    simp only [Rdr.fields, getM, hq, Int.reduceEq, if_true, if_false, or_self, or_true, true_or, false_or, or_false, int_back' a1, rtext_back t1, rdig_back]
    refine Prod.ext ?_ ?_
    · simp [Msg.iff, hq]; grind
    · simp [Msg.rest, hq, subB, blobB, List.append_assoc]
  · have h0 := hq
    have e : m.rest ++ y = digS m.own ++ (y) := by simp [Msg.rest, hq, subB, blobB]
    rw [e]
    simp only [Rdr.fields, getM, hq, Int.reduceEq, if_true, if_false, or_self, or_true, true_or, false_or, or_false, rdig_back]
    refine Prod.ext ?_ ?_
    · simp [Msg.iff, hq]; grind
    · simp [Msg.rest, hq, subB, blobB, List.append_assoc]
theorem get_back {m : Msg} (hok : m.Ok) : getR m.bytes = (m, 0) := by
  have hk := hok.kinds
  have hc := hok.2.1
  simp only [In] at hc
  have hkk : 1 ≤ m.kind ∧ m.kind ≤ 11 := by omega
  have a1 : Rng m.kind := ⟨by omega, by omega⟩
  have a2 : Rng m.client := ⟨by omega, by omega⟩
  have hin : In 1 11 m.kind := hkk
  have e0 : ∀ x y, (rdAt x y).e = 0 := fun _ _ => rfl
  have hA : getA m.bytes = (m.kind, rdAt (numS m.kind) ((if m.kind = 2 ∨ m.kind = 4 ∨ m.kind = 6 then [] else [m.client].flatMap numS) ++ m.rest)) := by
    have e : (⟨m.bytes, 0, 0⟩ : Rdr) = rdAt [] (numS m.kind ++ ((if m.kind = 2 ∨ m.kind = 4 ∨ m.kind = 6 then [] else [m.client].flatMap numS) ++ m.rest)) := by
      simp [rdAt, Msg.bytes]
    simp only [getA, e, int_back' a1, hin, not_true_eq_false, and_false, if_false, List.nil_append]
  have hB : ∃ x, getB (getA m.bytes) = (m.client, rdAt x m.rest) ∧ x ++ m.rest = m.bytes := by
    rw [hA]
    unfold getB
    by_cases h : m.kind = 2 ∨ m.kind = 4 ∨ m.kind = 6
    · rw [if_pos h, if_pos h]
      have h0 : m.client = 0 := by
        have ho := hok.2.2
        rcases h with h | h | h <;> simp [Msg.own_, h, Msg.iff] at ho <;> omega
      exact ⟨numS m.kind, by rw [h0]; simp, by simp [Msg.bytes, h]⟩
    · rw [if_neg h, if_neg h]
      simp only [List.flatMap_cons, List.flatMap_nil, List.append_nil, int_back' a2]
      exact ⟨_, rfl, by simp [Msg.bytes, h]⟩
  obtain ⟨x, hB, hx⟩ := hB
  have hC : getC m.bytes = (m, rdAt (x ++ m.rest) []) := by
    have h := fields_back hok (x := x) (y := [])
    rw [List.append_nil] at h
    simp only [getC, hB]
    rw [hA]; exact h
  have h1 : ¬ (((x ++ m.rest).length : Int) < (m.bytes.length : Int) ∨ ¬ m.Ok) := by rw [hx]; simp [hok]
  simp only [getR, hC, e0, ne_eq, not_true_eq_false, if_false]
  rw [if_neg (by simpa [rdAt] using h1)]
end Go.Aff.L10

/- Layer 32, walked: awake. -/
-- cuts
namespace Go.Aff.L10
open Go.Proofs Go.Aff Go.Aff.L01 Classical
set_option linter.unusedVariables false
set_option linter.unusedSimpArgs false
set_option maxRecDepth 20000
attribute [local go_sem] push_app app_app length_app cellAt_app cellAt_app0 set_app set_app0 objs_app objs_app0 List.cons_append List.nil_append List.length_cons List.length_nil List.getElem?_cons_zero List.getElem?_cons_succ List.set_cons_zero List.set_cons_succ List.length_map
attribute [-go_sem] cellAt_new
attribute [-simp] List.length_flatMap
attribute [local go_sem] Try.underlying3 Try.underlying4 Try.underlying5 Try.underlying9 Try.underlying42 Try.underlying43 Try.underlying46 Try.underlying51 Try.underlying39 Try.underlying37 subPs_0 subAt_0 subSet_0 subPs_1 subAt_1 subSet_1 subPs_2 subAt_2 subSet_2 subPs_3 subAt_3 subSet_3 subPs_4 subAt_4 subSet_4 subPs_5 subAt_5 subSet_5 sizes_sub shapes_sub fits_sub zero_sub zt_sub built_sub Try.underlying45 pendPs_0 pendAt_0 pendSet_0 pendPs_1 pendAt_1 pendSet_1 pendPs_2 pendAt_2 pendSet_2 pendPs_3 pendAt_3 pendSet_3 pendPs_4 pendAt_4 pendSet_4 pendPs_5 pendAt_5 pendSet_5 sizes_pend shapes_pend fits_pend zero_pend zt_pend built_pend Try.underlying96 repPs_0 repAt_0 repSet_0 repPs_1 repAt_1 repSet_1 repPs_2 repAt_2 repSet_2 repPs_3 repAt_3 repSet_3 repPs_4 repAt_4 repSet_4 repPs_5 repAt_5 repSet_5 repPs_6 repAt_6 repSet_6 repPs_7 repAt_7 repSet_7 repPs_8 repAt_8 repSet_8 repPs_9 repAt_9 repSet_9 sizes_rep shapes_rep fits_rep zero_rep zt_rep built_rep Try.underlying48 blobPs_0 blobAt_0 blobSet_0 blobPs_1 blobAt_1 blobSet_1 blobPs_2 blobAt_2 blobSet_2 blobPs_3 blobAt_3 blobSet_3 sizes_blob shapes_blob fits_blob zero_blob zt_blob built_blob Try.underlying50 msgPs_0 msgAt_0 msgSet_0 msgPs_1 msgAt_1 msgSet_1 msgPs_2 msgAt_2 msgSet_2 msgPs_3 msgAt_3 msgSet_3 msgPs_4 msgAt_4 msgSet_4 msgPs_5 msgAt_5 msgSet_5 msgPs_6 msgAt_6 msgSet_6 msgPs_7 msgAt_7 msgSet_7 msgPs_8 msgAt_8 msgSet_8 msgPs_9 msgAt_9 msgSet_9 sizes_msg shapes_msg fits_msg zero_msg zt_msg built_msg Try.underlying53 at_Ps_0 at_Set_0 at_Ps_1 at_Set_1 sizes_at_ shapes_at_
attribute [local go_sem] fits3 fits4 fits5 fits9 fits23 fits26 fits31 fits34 fits52 zt3 zero3 zt34 zero34 zt23 zero23 bin_sub_eql bin_pend_eql bin_pend_neq bin_blob_eql bin_dig23_eql bin_dig23_neq slice23
attribute [local go_sem ↓] blockQ_exit2
attribute [local simp] dig_ext
attribute [local go_sem] postPs_0 postAt_0 postSet_0 postPs_1 postAt_1 postSet_1 postPs_2 postAt_2 postSet_2 sizes_post shapes_post fits_post zero_post zt_post built_post Try.underlying34 keyPs_0 keyAt_0 keySet_0 keyPs_1 keyAt_1 keySet_1 keyPs_2 keyAt_2 keySet_2 sizes_key shapes_key fits_key zero_key zt_key built_key Try.underlying74 conPs_0 conAt_0 conSet_0 conPs_1 conAt_1 conSet_1 sizes_con shapes_con fits_con zero_con zt_con built_con Try.underlying76 Try.underlying22 Try.underlying24 Try.underlying25 Try.underlying27 Try.underlying30 Try.underlying51 Try.underlying99 Try.underlying101 Try.underlying102 Try.underlying104
attribute [local go_sem] rptPs_0 rptAt_0 rptSet_0 rptPs_1 rptAt_1 rptSet_1 rptPs_2 rptAt_2 rptSet_2 rptPs_3 rptAt_3 rptSet_3 rptPs_4 rptAt_4 rptSet_4 sizes_rpt shapes_rpt fits_rpt zero_rpt zt_rpt built_rpt fits24 fits25 sizes_arrI shapes_arrI arrI_len
theorem get_what : (getR [119, 104, 97, 116]).2 ≠ 0 := by
  have h : L01.numR [119, 104, 97, 116] 0 = (0, 0, 6) := by decide
  have h1 : (Rdr.mk [119, 104, 97, 116] 0 0).int = (0, ⟨[119, 104, 97, 116], 0, 6⟩) := by simp [Rdr.int, h]
  have h2 : getA [119, 104, 97, 116] = (0, ⟨[119, 104, 97, 116], 0, 6⟩) := by simp [getA, h1]
  have h3 : (Rdr.mk [119, 104, 97, 116] 0 6).int = (0, ⟨[119, 104, 97, 116], 0, 6⟩) := by simp [Rdr.int]
  have h4 : getC [119, 104, 97, 116] = (getM 0 0, ⟨[119, 104, 97, 116], 0, 6⟩) := by simp [getC, h2, getB, h3, Rdr.fields, getM]
  simp [getR, h4]
def cm0 : Msg := { msg0 with kind := 3, view := [0] }
def cm1 : Msg := { msg0 with kind := 3, client := 1, view := [1] }
theorem cm0_ok : cm0.Ok := ⟨by simp [Msg.FieldsOk, cm0, ViewOk], by simp [In, cm0, msg0], by simp [Msg.own_, cm0, msg0]⟩
theorem cm1_ok : cm1.Ok := ⟨by simp [Msg.FieldsOk, cm1, ViewOk], by simp [In, cm1], by simp [Msg.own_, cm1, msg0]⟩
def awakeL : List Post := [⟨0, 0, cm0.bytes⟩, ⟨0, 0, [119, 104, 97, 116]⟩, ⟨0, 0, cm1.bytes⟩]
theorem kd_cm0 : kd ⟨0, 0, cm0.bytes⟩ = 3 := by unfold kd; rw [get_back cm0_ok]; rfl
theorem kd_cm1 : kd ⟨0, 0, cm1.bytes⟩ = 3 := by unfold kd; rw [get_back cm1_ok]; rfl
theorem kd_what : kd ⟨0, 0, [119, 104, 97, 116]⟩ = 0 := by unfold kd; rw [if_neg get_what]
theorem awake_k0 : kindsN awakeL 0 = 1 := by simp [kindsN, awakeL, kd_cm0, kd_cm1, kd_what]
theorem awake_k3 : kindsN awakeL 3 = 2 := by simp [kindsN, awakeL, kd_cm0, kd_cm1, kd_what]
theorem kind_cm0 : (getR cm0.bytes).1.kind = 3 := by rw [get_back cm0_ok]; rfl
theorem kind_cm1 : (getR cm1.bytes).1.kind = 3 := by rw [get_back cm1_ok]; rfl
theorem cont_kind {p : Post} (h : (getR p.b).1.kind = 3 ∨ (getR p.b).2 ≠ 0) : cont1 p = [] := by
  unfold cont1
  rw [if_neg]
  rintro ⟨h1, h2⟩
  rcases h with h | h
  · simp [named, h] at h2
  · exact h h1
theorem awake_tw : twiceN awakeL = 0 := by
  have e : conts awakeL = [] := by
    simp only [conts, awakeL, List.flatMap_cons, List.flatMap_nil, List.append_nil]
    rw [cont_kind (p := ⟨0, 0, cm0.bytes⟩) (.inl kind_cm0), cont_kind (p := ⟨0, 0, [119, 104, 97, 116]⟩) (.inr get_what), cont_kind (p := ⟨0, 0, cm1.bytes⟩) (.inl kind_cm1)]
    rfl
  unfold twiceN; rw [e]; exact L32.twos_nil
theorem vStep_of {i : Nat} {p : Post} {m : Msg} (h : getR p.b = (m, 0)) (hm : comM32 m) : vStep i p = [(m.view, (i : Int))] := by
  unfold vStep; rw [h]; simp [hm]
theorem awake_v : vws awakeL 3 = [([0], 0), ([1], 2)] := by
  have c0 : vStep 0 ⟨0, 0, cm0.bytes⟩ = [([0], 0)] := vStep_of (p := ⟨0, 0, cm0.bytes⟩) (m := cm0) (get_back cm0_ok) (.inl rfl)
  have c1 : ∀ i, vStep i ⟨0, 0, [119, 104, 97, 116]⟩ = [] := fun i => by unfold vStep; rw [if_neg (fun h => get_what h.1)]
  have c2 : vStep 2 ⟨0, 0, cm1.bytes⟩ = [([1], 2)] := vStep_of (i := 2) (p := ⟨0, 0, cm1.bytes⟩) (m := cm1) (get_back cm1_ok) (.inl rfl)
  have g0 : awakeL[0]? = some ⟨0, 0, cm0.bytes⟩ := by simp only [awakeL, List.getElem?_cons_succ, List.getElem?_cons_zero]
  have g1 : awakeL[1]? = some ⟨0, 0, [119, 104, 97, 116]⟩ := by simp only [awakeL, List.getElem?_cons_succ, List.getElem?_cons_zero]
  have g2 : awakeL[2]? = some ⟨0, 0, cm1.bytes⟩ := by simp only [awakeL, List.getElem?_cons_succ, List.getElem?_cons_zero]
  have n0 := vws_next g0
  have n1 := vws_next g1
  have n2 := vws_next g2
  rw [n2, n1, n0]
  rw [show vStep 0 ⟨0, 0, cm0.bytes⟩ = [([0], 0)] from c0, c1, c2]
  simp [vws]
theorem awake_ft {F T : Int} (h : RepP awakeL F T) : F = 0 ∧ T = 2 := by
  obtain ⟨a, b, hF, h⟩ := h
  have e : vwsV awakeL = [[0], [1]] := by
    have := vws_views (l := awakeL)
    rw [← this]
    show (vws awakeL 3).map _ = _
    rw [awake_v]; rfl
  rw [e] at hF
  obtain ⟨rfl, rfl⟩ := L09.fork_found (k := 1) (i := 0) (x := [0]) (y := [1]) hF (fun k' i' h1 h2 x y hx hy => by omega) (by decide) rfl rfl (by decide)
  rcases h with ⟨h, _⟩ | ⟨_, _, h3, h4⟩
  · omega
  · have e2 : vws awakeL awakeL.length = [([0], 0), ([1], 2)] := awake_v
    rw [e2] at h3 h4
    simp at h3 h4
    exact ⟨h3.symm, h4.symm⟩
theorem awake_c {σ : AST} {K : AV → AST → Prop} (hK : K (.bool true) σ) : TCalls Try.prog 9 [] σ K := by
  refine TCalls.drop ?_
  have k0 := cm0_ok
  have k1 := cm1_ok
  have e0 : (⟨3, msg0.client, msg0.sub, msg0.rep, [0], msg0.by_, msg0.tag, msg0.own, msg0.blob, msg0.nums⟩ : Msg) = cm0 := rfl
  have e1 : (⟨3, 1, msg0.sub, msg0.rep, [1], msg0.by_, msg0.tag, msg0.own, msg0.blob, msg0.nums⟩ : Msg) = cm1 := rfl
  have p0 : (⟨post0.frm, post0.to, cm0.bytes⟩ : Post) = ⟨0, 0, cm0.bytes⟩ := rfl
  refine tcalls_walk Try.f9 _ [.tmp 0] Try.func9 rfl rfl rfl mixed (Nat.le_of_ble_eq_true rfl) rfl fun hlen => ?_
  repeat' (first | (simp -dsimp only [↓reduceIte, go_sem, e0, e1, k0, k1]) | (refine arr_intro fun _ => ?_) | (refine later_intro ⟨keeps_nil, ?_⟩) | (refine later_intro ⟨keeps_refl, ?_⟩) | (with_reducible refine keeps_go ?_ ?_; focus (first | (simp [keeps_cons, keeps_none, objs_app, objs_app0]; done) | (simp only [keeps_cons, keeps_none, objs_app0, objs_app, and_true]; first | rfl | exact ⟨rfl, rfl⟩ | exact ⟨rfl, rfl, rfl⟩))) | (with_reducible refine (And.intro (a := keeps _ _ _) ?_ ?_); focus (first | (simp [keeps_cons, keeps_none, objs_app, objs_app0]; done) | (simp only [keeps_cons, keeps_none, objs_app0, objs_app, and_true]; first | rfl | exact ⟨rfl, rfl⟩ | exact ⟨rfl, rfl, rfl⟩))) | (refine both_ways ?_ ?_) | (rw [wrap_i64 (by omega) (by omega)]) | (refine guardV_split (fun h => ?_) (fun h => ?_) <;> (try rw [h]) <;> (try simp at h) <;> (try (exfalso; omega))) | ((refine put_c ?_)) | (refine build_slice E22 rfl (by decide) (by intro v hv; simp at hv; rcases hv with rfl | rfl | rfl <;> simp [go_sem]) ?_))
  have hps : [AV.agg (postPs ⟨post0.frm, post0.to, cm0.bytes⟩), .agg (postPs ⟨post0.frm, post0.to, [119, 104, 97, 116]⟩), .agg (postPs ⟨post0.frm, post0.to, cm1.bytes⟩)] = awakeL.map postV := rfl
  rw [hps]
  refine read_c (by decide) fun F T hr => ?_
  obtain ⟨rfl, rfl⟩ := awake_ft hr
  have i0 := awake_k0
  have i3 := awake_k3
  have it := awake_tw
  generalize hx : rptOf awakeL 0 2 = x
  have x1 : x.first = 0 := by rw [← hx]; rfl
  have x2 : x.then_ = 2 := by rw [← hx]; rfl
  have x3 : x.kinds 0 = 1 := by rw [← hx]; exact i0
  have x4 : x.kinds 3 = 2 := by rw [← hx]; exact i3
  have x5 : x.twice = 0 := by rw [← hx]; show ((twiceN awakeL : Nat) : Int) = 0; rw [it]; rfl
  have r0 : ∀ k, k < 12 → (AV.agg (rptPs x)).at [0, k] = some (.int .i64 (x.kinds k)) := fun k => rat0
  have c0 : ∀ p, cellAt (σ.app [.cells (rptV x)]) σ.objs.length p = (AV.agg (rptPs x)).at p := fun p => by rw [cellAt_app0]; rfl
  repeat' (first | (simp -dsimp only [↓reduceIte, go_sem, x1, x2, x3, x4, x5, rat0 (x := x) (k := 0) (by decide), rat0 (x := x) (k := 3) (by decide)]) | (refine arr_intro fun _ => ?_) | (refine later_intro ⟨keeps_nil, ?_⟩) | (refine later_intro ⟨keeps_refl, ?_⟩) | (with_reducible refine keeps_go ?_ ?_; focus (first | (simp [keeps_cons, keeps_none, objs_app, objs_app0]; done) | (simp only [keeps_cons, keeps_none, objs_app0, objs_app, and_true]; first | rfl | exact ⟨rfl, rfl⟩ | exact ⟨rfl, rfl, rfl⟩))) | (with_reducible refine (And.intro (a := keeps _ _ _) ?_ ?_); focus (first | (simp [keeps_cons, keeps_none, objs_app, objs_app0]; done) | (simp only [keeps_cons, keeps_none, objs_app0, objs_app, and_true]; first | rfl | exact ⟨rfl, rfl⟩ | exact ⟨rfl, rfl, rfl⟩))) | (refine both_ways ?_ ?_) | (rw [wrap_i64 (by omega) (by omega)]) | (refine guardV_split (fun h => ?_) (fun h => ?_) <;> (try rw [h]) <;> (try simp at h) <;> (try (exfalso; omega))) | (refine idx0 (k := 0) c0 (by decide) ?_) | (refine idx0 (k := 3) c0 (by decide) ?_))
  exact ⟨Ext.app _ _, rfl, by simpa [AV.strip] using hK⟩
end Go.Aff.L10

/- Layer 32: AuditTwice. -/
-- cuts
namespace Go.Aff.L10
open Go.Proofs Go.Aff Go.Aff.L01 Classical
set_option linter.unusedVariables false
set_option linter.unusedSimpArgs false
set_option maxRecDepth 20000
attribute [local go_sem] push_app app_app length_app cellAt_app cellAt_app0 set_app set_app0 objs_app objs_app0 List.cons_append List.nil_append List.length_cons List.length_nil List.getElem?_cons_zero List.getElem?_cons_succ List.set_cons_zero List.set_cons_succ List.length_map
attribute [-go_sem] cellAt_new
attribute [-simp] List.length_flatMap
attribute [local go_sem] Try.underlying3 Try.underlying4 Try.underlying5 Try.underlying9 Try.underlying42 Try.underlying43 Try.underlying46 Try.underlying51 Try.underlying39 Try.underlying37 subPs_0 subAt_0 subSet_0 subPs_1 subAt_1 subSet_1 subPs_2 subAt_2 subSet_2 subPs_3 subAt_3 subSet_3 subPs_4 subAt_4 subSet_4 subPs_5 subAt_5 subSet_5 sizes_sub shapes_sub fits_sub zero_sub zt_sub built_sub Try.underlying45 pendPs_0 pendAt_0 pendSet_0 pendPs_1 pendAt_1 pendSet_1 pendPs_2 pendAt_2 pendSet_2 pendPs_3 pendAt_3 pendSet_3 pendPs_4 pendAt_4 pendSet_4 pendPs_5 pendAt_5 pendSet_5 sizes_pend shapes_pend fits_pend zero_pend zt_pend built_pend Try.underlying96 repPs_0 repAt_0 repSet_0 repPs_1 repAt_1 repSet_1 repPs_2 repAt_2 repSet_2 repPs_3 repAt_3 repSet_3 repPs_4 repAt_4 repSet_4 repPs_5 repAt_5 repSet_5 repPs_6 repAt_6 repSet_6 repPs_7 repAt_7 repSet_7 repPs_8 repAt_8 repSet_8 repPs_9 repAt_9 repSet_9 sizes_rep shapes_rep fits_rep zero_rep zt_rep built_rep Try.underlying48 blobPs_0 blobAt_0 blobSet_0 blobPs_1 blobAt_1 blobSet_1 blobPs_2 blobAt_2 blobSet_2 blobPs_3 blobAt_3 blobSet_3 sizes_blob shapes_blob fits_blob zero_blob zt_blob built_blob Try.underlying50 msgPs_0 msgAt_0 msgSet_0 msgPs_1 msgAt_1 msgSet_1 msgPs_2 msgAt_2 msgSet_2 msgPs_3 msgAt_3 msgSet_3 msgPs_4 msgAt_4 msgSet_4 msgPs_5 msgAt_5 msgSet_5 msgPs_6 msgAt_6 msgSet_6 msgPs_7 msgAt_7 msgSet_7 msgPs_8 msgAt_8 msgSet_8 msgPs_9 msgAt_9 msgSet_9 sizes_msg shapes_msg fits_msg zero_msg zt_msg built_msg Try.underlying53 at_Ps_0 at_Set_0 at_Ps_1 at_Set_1 sizes_at_ shapes_at_
attribute [local go_sem] fits3 fits4 fits5 fits9 fits23 fits26 fits31 fits34 fits52 zt3 zero3 zt34 zero34 zt23 zero23 bin_sub_eql bin_pend_eql bin_pend_neq bin_blob_eql bin_dig23_eql bin_dig23_neq slice23
attribute [local go_sem ↓] blockQ_exit2
attribute [local simp] dig_ext
attribute [local go_sem] postPs_0 postAt_0 postSet_0 postPs_1 postAt_1 postSet_1 postPs_2 postAt_2 postSet_2 sizes_post shapes_post fits_post zero_post zt_post built_post Try.underlying34 keyPs_0 keyAt_0 keySet_0 keyPs_1 keyAt_1 keySet_1 keyPs_2 keyAt_2 keySet_2 sizes_key shapes_key fits_key zero_key zt_key built_key Try.underlying74 conPs_0 conAt_0 conSet_0 conPs_1 conAt_1 conSet_1 sizes_con shapes_con fits_con zero_con zt_con built_con Try.underlying76 Try.underlying22 Try.underlying24 Try.underlying25 Try.underlying27 Try.underlying30 Try.underlying51 Try.underlying99 Try.underlying101 Try.underlying102 Try.underlying104
attribute [local go_sem] rptPs_0 rptAt_0 rptSet_0 rptPs_1 rptAt_1 rptSet_1 rptPs_2 rptAt_2 rptSet_2 rptPs_3 rptAt_3 rptSet_3 rptPs_4 rptAt_4 rptSet_4 sizes_rpt shapes_rpt fits_rpt zero_rpt zt_rpt built_rpt fits24 fits25 sizes_arrI shapes_arrI arrI_len
theorem i64s_arrI {f : Nat → Int} : ∀ {l : List Nat}, i64s (l.map fun j => AV.int .i64 (f j)) = some (l.map f)
  | [] => rfl
  | a :: l => by simp only [List.map_cons, i64s, i64s_arrI (l := l)]; rfl
theorem eqI_arrI {n : Nat} {f g : Nat → Int} : eqI (arrI n f) (arrI n g) = some ((List.range n).map f == (List.range n).map g) := by
  unfold eqI arrI; rw [i64s_arrI, i64s_arrI]
theorem bin_arr {t n : Nat} {f g : Nat → Int} {KV : AV → Prop} (hu : Try.prog.underlying t = some (.array n 3)) (hg : Try.prog.eqGuardType Try.prog.depth t = false) (he : ∀ j, j < n → f j = g j) (hK : KV (.bool true)) : binW Try.prog .eql t (.agg (arrI n f)) (.agg (arrI n g)) KV := by
  have h1 : isI64 Try.prog 3 = true := by unfold isI64; rw [Try.underlying3]
  have h2 : Try.prog.cellsOf 3 = 1 := by kernel_rfl
  refine ⟨hg, true, ?_, hK⟩
  simp only [eqA, hu, h1, h2, arrI_len, true_and, and_true]
  rw [if_pos (by omega), eqI_arrI]
  have : (List.range n).map f = (List.range n).map g := List.map_congr_left fun j hj => he j (by simpa using hj)
  rw [this]; simp
theorem bin_arr24 {f g : Nat → Int} {KV : AV → Prop} (he : ∀ j, f j = g j) (hK : KV (.bool true)) : binW Try.prog .eql 24 (.agg (arrI 12 f)) (.agg (arrI 12 g)) KV := bin_arr Try.underlying24 (by kernel_rfl) (fun j _ => he j) hK
theorem bin_arr25 {f g : Nat → Int} {KV : AV → Prop} (he : ∀ j, f j = g j) (hK : KV (.bool true)) : binW Try.prog .eql 25 (.agg (arrI 8 f)) (.agg (arrI 8 g)) KV := bin_arr Try.underlying25 (by kernel_rfl) (fun j _ => he j) hK
theorem vws_twice {l : List Post} : (vws (l ++ l) (l ++ l).length).length = 2 * (vws l l.length).length := by
  have h1 := congrArg List.length (vws_views (l := l ++ l))
  have h2 := congrArg List.length (vws_views (l := l))
  rw [vwsV_app] at h1
  simp only [List.length_map, List.length_append] at h1 h2 ⊢
  omega
theorem auditTwice_c {ps : List Post} {ta : Tk} {σ : AST} {K : AV → AST → Prop} (hK : K (.bool true) σ) : TCalls Try.prog 3 [.slice ta (ps.map postV)] σ K := by
  refine TCalls.drop ?_
  refine tcalls_walk Try.f3 _ [.tmp 2] Try.func3 rfl rfl rfl mixed (Nat.le_of_ble_eq_true rfl) rfl fun hlen => ?_
  repeat' (first | (simp -dsimp only [↓reduceIte, go_sem]) | (refine arr_intro fun _ => ?_) | (refine later_intro ⟨keeps_nil, ?_⟩) | (refine later_intro ⟨keeps_refl, ?_⟩) | (with_reducible refine keeps_go ?_ ?_; focus (first | (simp [keeps_cons, keeps_none, objs_app, objs_app0]; done) | (simp only [keeps_cons, keeps_none, objs_app0, objs_app, and_true]; first | rfl | exact ⟨rfl, rfl⟩ | exact ⟨rfl, rfl, rfl⟩))) | (with_reducible refine (And.intro (a := keeps _ _ _) ?_ ?_); focus (first | (simp [keeps_cons, keeps_none, objs_app, objs_app0]; done) | (simp only [keeps_cons, keeps_none, objs_app0, objs_app, and_true]; first | rfl | exact ⟨rfl, rfl⟩ | exact ⟨rfl, rfl, rfl⟩))) | (refine both_ways ?_ ?_) | (rw [wrap_i64 (by omega) (by omega)]) | (refine guardV_split (fun h => ?_) (fun h => ?_) <;> (try rw [h]) <;> (try simp at h) <;> (try (exfalso; omega))))
  refine few_c fun s1 tk hx hn hc => ?_
  have hl := fewL_len (l := ps)
  generalize fewL ps = l at *
  repeat' (first | (simp -dsimp only [↓reduceIte, go_sem]) | (refine arr_intro fun _ => ?_) | (refine later_intro ⟨keeps_nil, ?_⟩) | (refine later_intro ⟨keeps_refl, ?_⟩) | (with_reducible refine keeps_go ?_ ?_; focus (first | (simp [keeps_cons, keeps_none, objs_app, objs_app0]; done) | (simp only [keeps_cons, keeps_none, objs_app0, objs_app, and_true]; first | rfl | exact ⟨rfl, rfl⟩ | exact ⟨rfl, rfl, rfl⟩))) | (with_reducible refine (And.intro (a := keeps _ _ _) ?_ ?_); focus (first | (simp [keeps_cons, keeps_none, objs_app, objs_app0]; done) | (simp only [keeps_cons, keeps_none, objs_app0, objs_app, and_true]; first | rfl | exact ⟨rfl, rfl⟩ | exact ⟨rfl, rfl, rfl⟩))) | (refine both_ways ?_ ?_) | (rw [wrap_i64 (by omega) (by omega)]) | (refine guardV_split (fun h => ?_) (fun h => ?_) <;> (try rw [h]) <;> (try simp at h) <;> (try (exfalso; omega))) | (refine build_slice E22 rfl (by decide) (by intro v hv; simp at hv) ?_) | (refine append_pnone (by omega) ?_) | (refine append_posts canGrow (by omega) ?_))
  refine read_c (by omega) fun F T hr => ?_
  repeat' (first | (simp -dsimp only [↓reduceIte, go_sem]) | (refine arr_intro fun _ => ?_) | (refine later_intro ⟨keeps_nil, ?_⟩) | (refine later_intro ⟨keeps_refl, ?_⟩) | (with_reducible refine keeps_go ?_ ?_; focus (first | (simp [keeps_cons, keeps_none, objs_app, objs_app0]; done) | (simp only [keeps_cons, keeps_none, objs_app0, objs_app, and_true]; first | rfl | exact ⟨rfl, rfl⟩ | exact ⟨rfl, rfl, rfl⟩))) | (with_reducible refine (And.intro (a := keeps _ _ _) ?_ ?_); focus (first | (simp [keeps_cons, keeps_none, objs_app, objs_app0]; done) | (simp only [keeps_cons, keeps_none, objs_app0, objs_app, and_true]; first | rfl | exact ⟨rfl, rfl⟩ | exact ⟨rfl, rfl, rfl⟩))) | (refine both_ways ?_ ?_) | (rw [wrap_i64 (by omega) (by omega)]) | (refine guardV_split (fun h => ?_) (fun h => ?_) <;> (try rw [h]) <;> (try simp at h) <;> (try (exfalso; omega))))
  refine read_c (by simp; omega) fun F' T' hr' => ?_
  obtain ⟨rfl, rfl⟩ := hr.again hr'
  have hm : ∀ p, p ∈ l ↔ p ∈ l ++ l := fun p => by simp
  have e1 := twiceN_same hm
  have e2 := fun c => lastN_same (c := c) hm
  try rw [growFull]
  have hx2 := hx.trans (Ext.growFull s1 (l.length + l.length) 3)
  generalize growS s1 Tk.full (l.length + l.length) 3 = s2 at *
  have x1 : (rptOf (l ++ l) F' T').first = (rptOf l F' T').first := rfl
  have x2 : (rptOf (l ++ l) F' T').then_ = (rptOf l F' T').then_ := rfl
  have x3 : (rptOf (l ++ l) F' T').twice = (rptOf l F' T').twice := by show ((twiceN (l ++ l) : Nat) : Int) = (twiceN l : Nat); rw [e1]
  have x4 : ∀ j, (rptOf l F' T').last j = (rptOf (l ++ l) F' T').last j := e2
  generalize rptOf (l ++ l) F' T' = y at *
  generalize rptOf l F' T' = x at *
  repeat' (first | (simp -dsimp only [↓reduceIte, go_sem, x1, x2, x3]) | (refine arr_intro fun _ => ?_) | (refine later_intro ⟨keeps_nil, ?_⟩) | (refine later_intro ⟨keeps_refl, ?_⟩) | (with_reducible refine keeps_go ?_ ?_; focus (first | (simp [keeps_cons, keeps_none, objs_app, objs_app0]; done) | (simp only [keeps_cons, keeps_none, objs_app0, objs_app, and_true]; first | rfl | exact ⟨rfl, rfl⟩ | exact ⟨rfl, rfl, rfl⟩))) | (with_reducible refine (And.intro (a := keeps _ _ _) ?_ ?_); focus (first | (simp [keeps_cons, keeps_none, objs_app, objs_app0]; done) | (simp only [keeps_cons, keeps_none, objs_app0, objs_app, and_true]; first | rfl | exact ⟨rfl, rfl⟩ | exact ⟨rfl, rfl, rfl⟩))) | (refine both_ways ?_ ?_) | (rw [wrap_i64 (by omega) (by omega)]) | (refine guardV_split (fun h => ?_) (fun h => ?_) <;> (try rw [h]) <;> (try simp at h) <;> (try (exfalso; omega))) | ((refine awake_c ?_)) | (refine bin_arr25 x4 ?_) | ((refine commits32_c (by first | omega | (simp; omega)) fun s' tv hx' => ?_)))
  have hv := vws_twice (l := l)
  have hvl := vws_len (l := l) (i := l.length)
  have e : (((vws (l ++ l) (l ++ l).length).length : Int) == IntKind.i64.wrap (2 * ((vws l l.length).length : Int))) = true := by
    rw [wrap_i64 (by omega) (by omega), hv]; simp
  rw [e]
  refine ⟨((hx2.trans (Ext.app _ _)).trans ‹Ext (s2.app _) _›).trans hx', rfl, by simpa [AV.strip] using hK⟩
end Go.Aff.L10

