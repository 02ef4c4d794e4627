import Derived.Test.YtahhjdknfhkgcaaG9
import Derived.Test.YtahhjdknfhkgcaaG7

set_option linter.unusedSimpArgs false
set_option linter.unusedVariables false

namespace Go.Aff.L10
open Go.Proofs Go.Aff Go.Aff.L01 Classical

def In (lo hi n : Int) : Prop := lo ≤ n ∧ n ≤ hi
def ViewOk (k : Int) (h : List UInt8) : Prop := (∀ b ∈ h, (b.toNat : Int) < k) ∧ h.length ≤ 512 ∧ 1 ≤ k ∧ k ≤ 256
def Sub.Ok (x : Sub) : Prop := In 1 512 x.num ∧ In 1 2 x.kind ∧ In 0 7 x.target ∧ x.value.length ≤ 256
def Pend.Ok (p : Pend) : Prop := In 0 7 p.client ∧ In 0 7 p.target ∧ In 1 512 p.num ∧ In 1 2 p.kind
def Rep.Ok (x : Rep) : Prop := (∀ p ∈ x.pending, p.Ok) ∧ In 1 512 x.num ∧ In (-1) 7 x.last ∧ (x.view = [] ↔ x.last = -1) ∧ x.pending.length ≤ 8 ∧ ViewOk 8 x.view ∧ ViewOk 8 x.seen ∧ In 0 512 x.vnum ∧ x.value.length ≤ 256
def Blob.Ok (b : Blob) : Prop := In 0 7 b.owner ∧ In 0 1099511627776 b.num ∧ b.cipher.length ≤ 4096
def NumsOk (l : List Int) : Prop := (∀ (i : Nat) n, l[i]? = some n → In 0 1099511627776 n ∧ ∀ m, 0 < i → l[i - 1]? = some m → m < n) ∧ In 1 64 l.length
def Msg.own_ (m : Msg) : Msg :=
  if m.kind = 1 then { msg0 with kind := m.kind, client := m.client, sub := m.sub }
  else if m.kind = 2 then { msg0 with kind := m.kind, client := 0, rep := m.rep }
  else if m.kind = 3 then { msg0 with kind := m.kind, client := m.client, view := m.view, tag := m.tag }
  else if m.kind = 4 ∨ m.kind = 6 then { msg0 with kind := m.kind, client := 0, blob := m.blob }
  else if m.kind = 5 ∨ m.kind = 7 ∨ m.kind = 8 then { msg0 with kind := m.kind, client := m.client, nums := m.nums }
  else if m.kind = 10 then { msg0 with kind := m.kind, client := m.client, by_ := m.by_, view := m.view, tag := m.tag, own := m.own }
  else if m.kind = 11 then { msg0 with kind := m.kind, client := m.client, own := m.own }
  else { msg0 with kind := m.kind, client := m.client }
def Msg.FieldsOk (m : Msg) : Prop :=
  if m.kind = 1 then m.sub.Ok
  else if m.kind = 2 then m.rep.Ok
  else if m.kind = 3 then m.view ≠ [] ∧ ViewOk 8 m.view
  else if m.kind = 4 ∨ m.kind = 6 then m.blob.Ok
  else if m.kind = 5 ∨ m.kind = 7 ∨ m.kind = 8 then NumsOk m.nums
  else if m.kind = 10 then In 0 7 m.by_ ∧ m.view ≠ [] ∧ ViewOk 8 m.view
  else m.kind = 9 ∨ m.kind = 11
def Msg.Ok (m : Msg) : Prop := m.FieldsOk ∧ In 0 7 m.client ∧ m.own_ = m
end Go.Aff.L10

namespace Go.Aff.L10
open Go.Proofs Go.Aff Go.Aff.L01 Classical
set_option maxRecDepth 20000
attribute [local go_sem] push_app app_app length_app cellAt_app cellAt_app0 set_app set_app0 objs_app objs_app0 List.cons_append List.nil_append List.length_cons List.length_nil List.getElem?_cons_zero List.getElem?_cons_succ List.set_cons_zero List.set_cons_succ List.length_map
attribute [-go_sem] cellAt_new
attribute [-simp] List.length_flatMap
attribute [local go_sem ↓] blockQ_exit2
theorem Within_c {n lo hi : Int} {σ : AST} {K : AV → AST → Prop} (hK : K (.bool (decide (In lo hi n))) σ) : TCalls Try.prog 61 [.int .i64 n, .int .i64 lo, .int .i64 hi] σ K := by
  refine tcalls_walk Try.f61 _ [.tmp 6] Try.func61 rfl rfl rfl mixed (Nat.le_of_ble_eq_true rfl) rfl fun hlen => ?_
  repeat' (first | (simp -dsimp only [↓reduceIte, go_sem]) | (refine arr_intro fun _ => ?_) | (refine later_intro ⟨keeps_nil, ?_⟩) | (refine later_intro ⟨keeps_refl, ?_⟩) | (with_reducible refine keeps_go ?_ ?_; focus (first | (simp [keeps_cons, keeps_none, objs_app, objs_app0]; done) | (simp only [keeps_cons, keeps_none, objs_app0, objs_app, and_true]; first | rfl | exact ⟨rfl, rfl⟩ | exact ⟨rfl, rfl, rfl⟩))) | (with_reducible refine (And.intro (a := keeps _ _ _) ?_ ?_); focus (first | (simp [keeps_cons, keeps_none, objs_app, objs_app0]; done) | (simp only [keeps_cons, keeps_none, objs_app0, objs_app, and_true]; first | rfl | exact ⟨rfl, rfl⟩ | exact ⟨rfl, rfl, rfl⟩))) | (refine both_ways ?_ ?_) | (rw [wrap_i64 (by omega) (by omega)]) | (refine guardV_split (fun h => ?_) (fun h => ?_) <;> (try rw [h]) <;> (try simp at h) <;> (try (exfalso; omega))))
  all_goals (first | exact hK | (exfalso; omega) | (refine bool_endD hK ?_; simp_all [In] <;> fail) | (refine bool_endDX (Ext.app _ _) hK ?_; simp_all [In] <;> fail) | (refine bool_endDX (Ext.refl _) hK ?_; simp_all [In] <;> fail) | (refine bool_endDX hx hK ?_; simp_all [In] <;> fail) | (refine bool_endD hK ?_; simp [In]; omega) | (refine bool_endDX (Ext.app _ _) hK ?_; simp [In]; omega) | (refine bool_endDX (Ext.refl _) hK ?_; simp [In]; omega) | (refine bool_endDX hx hK ?_; simp [In]; omega) | (refine bool_endD hK ?_; simp_all [In]; omega) | (refine bool_endDX (Ext.app _ _) hK ?_; simp_all [In]; omega) | (refine bool_endDX (Ext.refl _) hK ?_; simp_all [In]; omega) | (refine bool_endDX hx hK ?_; simp_all [In]; omega) | (refine bool_endD hK ?_; simp_all [In] <;> omega) | (refine bool_endDX (Ext.app _ _) hK ?_; simp_all [In] <;> omega) | (refine bool_endDX (Ext.refl _) hK ?_; simp_all [In] <;> omega) | (refine bool_endDX hx hK ?_; simp_all [In] <;> omega))
theorem ext_to {α : Type} {a b : List α} (h : a.length = b.length) (hall : ∀ (j : Nat) x y, j < a.length → a[j]? = some x → b[j]? = some y → x = y) : a = b := by
  apply List.ext_getElem?
  intro j
  by_cases hj : j < a.length
  · obtain ⟨x, hx⟩ := get_lt hj
    obtain ⟨y, hy⟩ := get_lt (l := b) (i := j) (by omega)
    rw [hx, hy, hall j x y hj hx hy]
  · rw [List.getElem?_eq_none (by omega), List.getElem?_eq_none (by omega)]
theorem all_next {α : Type} {a b : List α} {i : Nat} {x y : α} (hall : ∀ (j : Nat) x y, j < i → a[j]? = some x → b[j]? = some y → x = y) (hx : a[i]? = some x) (hy : b[i]? = some y) (h : x = y) : ∀ (j : Nat) x y, j < i + 1 → a[j]? = some x → b[j]? = some y → x = y := by
  intro j u v hj hu hv
  by_cases hji : j < i
  · exact hall j u v hji hu hv
  · obtain rfl : j = i := by omega
    rw [hx] at hu; rw [hy] at hv; cases hu; cases hv; exact h
attribute [local go_sem] bin_bool_ne

theorem view_last {l : List UInt8} {n : Int} : (l.isEmpty = (n == -1)) ↔ (l = [] ↔ n = -1) := by rw [Bool.eq_iff_iff]; simp
def isFull : Tk → Bool
  | .full => true
  | _ => false
def tkS {α : Type} (t : Tk) (l : List α) : Tk := if l = [] ∧ isFull t = true then .full else .none
theorem noRefs_pends {l : List Pend} : AV.noRefs (l.map pendV) = true := noRefs_leaf fun x => by simp only [AV.noRef]; exact noRef_pend
theorem noRefs_ints {l : List Int} : AV.noRefs (l.map (AV.int .i64)) = true := noRefs_leaf fun x => rfl
theorem slice_strip {α : Type} {f : α → AV} (h : ∀ x, (f x).strip = f x) {t : Tk} {l : List α} : (AV.slice t (l.map f)).strip = .slice (tkS t l) (l.map f) := by
  unfold tkS
  cases l with
  | nil => cases t <;> simp [AV.strip, isFull, AV.strips]
  | cons x r =>
    rw [if_neg (by simp)]
    cases t <;> simp [AV.strip, AV.strips, h x, strips_leaf h]
theorem strip_pendV (x : Pend) : (pendV x).strip = pendV x := by simp only [AV.strip, strip_pend]
theorem rep_strips {t : Tk} {x : Rep} : AV.strips (repPs t x) = repPs (tkS t x.pending) x := by
  simp only [repPs, AV.strips, slice_strip strip_pendV]
  simp [AV.strip]
theorem msg_strips {t u : Tk} {m : Msg} : AV.strips (msgPs t u m) = msgPs (tkS t m.rep.pending) (tkS u m.nums) m := by
  simp only [msgPs, AV.strips, slice_strip (f := AV.int .i64) (fun x => by simp [AV.strip])]
  simp [AV.strip, rep_strips, strip_sub, strip_blob]
attribute [local go_sem] Try.underlying3 Try.underlying5 Try.underlying9 Try.underlying65 Try.underlying68 Try.underlying50 Try.underlying123 subPs_0 subAt_0 subPs_1 subAt_1 subPs_2 subAt_2 subPs_3 subAt_3 subPs_4 subAt_4 subPs_5 subAt_5 sizes_sub shapes_sub fits_sub zero_sub zt_sub built_sub Try.underlying67 pendPs_0 pendAt_0 pendPs_1 pendAt_1 pendPs_2 pendAt_2 pendPs_3 pendAt_3 pendPs_4 pendAt_4 pendPs_5 pendAt_5 sizes_pend shapes_pend fits_pend zero_pend zt_pend Try.underlying163 repPs_0 repAt_0 repPs_1 repAt_1 repPs_2 repAt_2 repPs_3 repAt_3 repPs_4 repAt_4 repPs_5 repAt_5 repPs_6 repAt_6 repPs_7 repAt_7 repPs_8 repAt_8 repPs_9 repAt_9 sizes_rep shapes_rep fits_rep zero_rep zt_rep built_rep Try.underlying70 blobPs_0 blobAt_0 blobPs_1 blobAt_1 blobPs_2 blobAt_2 blobPs_3 blobAt_3 sizes_blob shapes_blob fits_blob zero_blob zt_blob built_blob Try.underlying72 msgPs_0 msgAt_0 msgSet_0 msgPs_1 msgAt_1 msgSet_1 msgPs_2 msgAt_2 msgSet_2 msgPs_3 msgAt_3 msgSet_3 msgPs_4 msgAt_4 msgSet_4 msgPs_5 msgAt_5 msgSet_5 msgPs_6 msgAt_6 msgSet_6 msgPs_7 msgAt_7 msgSet_7 msgPs_8 msgAt_8 msgSet_8 msgPs_9 msgAt_9 sizes_msg shapes_msg fits_msg zero_msg zt_msg built_msg Try.underlying74
attribute [local go_sem] fits3 fits5 fits9 fits23 fits26 fits31 zt3 zt23 zero23 bin_sub_eql bin_pend_neq bin_blob_eql bin_dig23_eql bin_dig23_neq
attribute [local simp] dig_ext

theorem flatN {α : Type} {f : α → List UInt8} {l : List α} {m i : Nat} (h : ∀ x ∈ l, (f x).length ≤ m) : ((l.take i).flatMap f).length ≤ l.length * m := by
  have := flat_len (f := f) (m := m) (l := l.take i) (fun x hx => h x (List.mem_of_mem_take hx))
  have h2 : (l.take i).length * m ≤ l.length * m := Nat.mul_le_mul_right m (by simp; omega)
  omega
def InI (l : List Int) : Prop := ∀ n ∈ l, -9223372036854775808 ≤ n ∧ n ≤ 9223372036854775807
theorem numsN {l : List Int} (hl : InI l) : ∀ i, ((l.take i).flatMap numS).length ≤ l.length * 22 := fun i => flatN fun n hn => numS_len (hl n hn).1 (hl n hn).2

theorem E31 : ElemT Try.prog 50 3 1 8 := ⟨rfl, by kernel_rfl, by kernel_rfl, ⟨_, of_eq_true zt3⟩, by decide⟩
theorem partInt {n : Int} : fits Try.prog 3 (.int .i64 n) ∧ (AV.int .i64 n).known = true := by simp [go_sem]
section
variable {KV : AV → Prop}
theorem bI1 {a : Int} (h : KV (.slice .full ([a].map (AV.int .i64)))) : buildSliceW Try.prog 50 1 [(0, .int .i64 a)] KV := build_slice E31 rfl (by decide) (by simp [partInt]) h
theorem bI2 {a b : Int} (h : KV (.slice .full ([a, b].map (AV.int .i64)))) : buildSliceW Try.prog 50 2 [(0, .int .i64 a), (1, .int .i64 b)] KV := build_slice E31 rfl (by decide) (by simp [partInt]) h
theorem bI3 {a b c : Int} (h : KV (.slice .full ([a, b, c].map (AV.int .i64)))) : buildSliceW Try.prog 50 3 [(0, .int .i64 a), (1, .int .i64 b), (2, .int .i64 c)] KV := build_slice E31 rfl (by decide) (by simp [partInt]) h
theorem bI4 {a b c d : Int} (h : KV (.slice .full ([a, b, c, d].map (AV.int .i64)))) : buildSliceW Try.prog 50 4 [(0, .int .i64 a), (1, .int .i64 b), (2, .int .i64 c), (3, .int .i64 d)] KV := build_slice E31 rfl (by decide) (by simp [partInt]) h
end
theorem textS_le {s : List UInt8} {m : Nat} (hs : s.length ≤ m) (hm : m ≤ 16384) : (textS s).length ≤ m + 21 := by
  have := dg_len20 (show s.length < 18446744073709551616 by omega)
  simp [textS]; omega
abbrev digS (d : Dig) : List UInt8 := textS d.l
theorem digs_take {l : List Dig} {i : Nat} : ((l.take i).flatMap digS).length ≤ l.length * 53 := flatN (f := digS) fun d _ => textS_le (m := 32) (by simp [d.h]) (by omega)
def pendB (p : Pend) : List UInt8 := [p.client, p.num, p.kind, p.target].flatMap numS ++ [p.asked, p.proof].flatMap digS
def ansB (x : Rep) : List UInt8 := [x.num, x.last].flatMap numS ++ textS x.view ++ [x.commit].flatMap digS ++ [(x.pending.length : Int)].flatMap numS ++ x.pending.flatMap pendB ++ [x.vnum].flatMap numS ++ textS x.value ++ [x.data].flatMap digS ++ textS x.seen ++ [x.seenTag].flatMap digS
theorem Pend.Ok.in_ {p : Pend} (h : p.Ok) : InI [p.client, p.num, p.kind, p.target] := by
  obtain ⟨h1, h2, h3, h4⟩ := h
  simp only [In] at h1 h2 h3 h4
  intro n hn
  simp at hn
  omega

def subB (x : Sub) : List UInt8 := [x.num, x.kind, x.target].flatMap numS ++ textS x.value ++ [x.asked, x.data].flatMap digS
def blobB (x : Blob) : List UInt8 := [x.owner, x.num].flatMap numS ++ textS x.cipher ++ [x.tag].flatMap digS
def Msg.rest (m : Msg) : List UInt8 :=
  if m.kind = 1 then subB m.sub
  else if m.kind = 2 then ansB m.rep
  else if m.kind = 3 then textS m.view ++ [m.tag].flatMap digS
  else if m.kind = 4 ∨ m.kind = 6 then blobB m.blob
  else if m.kind = 5 ∨ m.kind = 7 ∨ m.kind = 8 then laidAll numS m.nums
  else if m.kind = 10 then [m.by_].flatMap numS ++ textS m.view ++ [m.tag, m.own].flatMap digS
  else if m.kind = 11 then [m.own].flatMap digS else []
def Msg.bytes (m : Msg) : List UInt8 := [m.kind].flatMap numS ++ (if m.kind = 2 ∨ m.kind = 4 ∨ m.kind = 6 then [] else [m.client].flatMap numS) ++ m.rest

theorem Msg.Ok.kinds {m : Msg} (h : m.Ok) : (m.kind = 1 ∧ m.sub.Ok) ∨ (m.kind = 2 ∧ m.rep.Ok) ∨ (m.kind = 3 ∧ m.view ≠ [] ∧ ViewOk 8 m.view) ∨ (m.kind = 4 ∧ m.blob.Ok) ∨ (m.kind = 5 ∧ NumsOk m.nums) ∨ (m.kind = 6 ∧ m.blob.Ok) ∨ (m.kind = 7 ∧ NumsOk m.nums) ∨ (m.kind = 8 ∧ NumsOk m.nums) ∨ m.kind = 9 ∨ (m.kind = 10 ∧ In 0 7 m.by_ ∧ m.view ≠ [] ∧ ViewOk 8 m.view) ∨ m.kind = 11 := by
  have h := h.1
  unfold Msg.FieldsOk at h
  split at h
  · simp_all
  split at h
  · simp_all
  split at h
  · simp_all
  split at h
  · rename_i hk; rcases hk with hk | hk <;> simp_all
  split at h
  · rename_i hk; rcases hk with hk | hk | hk <;> simp_all
  split at h
  · simp_all
  rcases h with h | h <;> simp_all
theorem NumsOk.in_ {l : List Int} (h : NumsOk l) : InI l := fun n hn => by
  obtain ⟨i, hi, rfl⟩ := List.getElem_of_mem hn
  have := (h.1 i _ (List.getElem?_eq_getElem hi)).1
  simp only [In] at this
  omega


theorem build_u8 {KV : AV → Prop} {y : UInt8} (h : KV (.slice .full (u8s [y]))) : buildSliceW Try.prog 123 1 [(0, .int .u8 y.toNat)] KV :=
  build_slice E51 rfl (by decide) (by simp [go_sem, fits_leaf (P := Try.prog) (t := 5) L01.agg5 (by kernel_rfl)]) (by simpa [u8s] using h)
theorem refBytes_c {d : Dig} {σ : AST} {K : AV → AST → Prop} (hK : K (.str d.l) σ) : TCalls Try.prog 96 [.dig d] σ K := by
  refine TCalls.drop ?_
  refine tcalls_walk Try.f96 _ [.tmp 2] Try.func96 rfl rfl rfl mixed (Nat.le_of_ble_eq_true rfl) rfl fun hlen => ?_
  repeat' (first | (simp -dsimp only [↓reduceIte, go_sem]) | (refine arr_intro fun _ => ?_) | (refine later_intro ⟨keeps_nil, ?_⟩) | (refine later_intro ⟨keeps_refl, ?_⟩) | (with_reducible refine keeps_go ?_ ?_; focus (first | (simp [keeps_cons, keeps_none, objs_app, objs_app0]; done) | (simp only [keeps_cons, keeps_none, objs_app0, objs_app, and_true]; first | rfl | exact ⟨rfl, rfl⟩ | exact ⟨rfl, rfl, rfl⟩))) | (with_reducible refine (And.intro (a := keeps _ _ _) ?_ ?_); focus (first | (simp [keeps_cons, keeps_none, objs_app, objs_app0]; done) | (simp only [keeps_cons, keeps_none, objs_app0, objs_app, and_true]; first | rfl | exact ⟨rfl, rfl⟩ | exact ⟨rfl, rfl, rfl⟩))) | (refine both_ways ?_ ?_) | (rw [wrap_i64 (by omega) (by omega)]) | (refine guardV_split (fun h => ?_) (fun h => ?_) <;> (try rw [h]) <;> (try simp at h) <;> (try (exfalso; omega))))
  have hd := d.h
  have hx0 : Ext σ (σ.app [.cells (.dig d)]) := Ext.app _ _
  have ho0 : (σ.app [.cells (.dig d)]).objs[σ.objs.length]? = some (.cells (.dig d)) := objs_app0
  refine awp_rounds (fun (i : Nat) τ s => ∃ tk, i ≤ 32 ∧ Gr σ s tk i ∧ s.objs[σ.objs.length]? = some (.cells (.dig d)) ∧ τ 1 = .ptr (some (σ.objs.length, [])) ∧ τ 3 = .slice tk (u8s (d.l.take i)) ∧ τ 4 = .int .i64 i) (fun i => 32 - i) 0 ?_ ?_
  · refine ⟨.full, by omega, Gr.start' hx0, ho0, ?_, ?_, ?_⟩ <;> (try simp only [go_sem]) <;> rfl
  · rintro i τ s ⟨tk, hi, hg, ho, t1, t3, t4⟩
    have c := cellAt_known ho
    simp -dsimp only [↓reduceIte, go_sem, t1, t3, t4]
    refine boolW_split (fun hb => ?_) (fun hb => ?_)
    · have hb : i < 32 := by simp at hb; omega
      obtain ⟨y, hy, hm⟩ := get_of_lt (l := d.l) (i := i) (by omega)
      have htk : d.l.take (i + 1) = d.l.take i ++ [y] := by rw [List.take_add_one, hy]; simp
      have hle : (d.l.take i).length = i := by simp; omega
      repeat' (first | (simp -dsimp only [↓reduceIte, go_sem, t1, t3, t4, c, at_dig1, hy]) | (refine arr_intro fun _ => ?_) | (refine later_intro ⟨keeps_nil, ?_⟩) | (refine later_intro ⟨keeps_refl, ?_⟩) | (with_reducible refine keeps_go ?_ ?_; focus (first | (simp [keeps_cons, keeps_none, objs_app, objs_app0]; done) | (simp only [keeps_cons, keeps_none, objs_app0, objs_app, and_true]; first | rfl | exact ⟨rfl, rfl⟩ | exact ⟨rfl, rfl, rfl⟩))) | (with_reducible refine (And.intro (a := keeps _ _ _) ?_ ?_); focus (first | (simp [keeps_cons, keeps_none, objs_app, objs_app0]; done) | (simp only [keeps_cons, keeps_none, objs_app0, objs_app, and_true]; first | rfl | exact ⟨rfl, rfl⟩ | exact ⟨rfl, rfl, rfl⟩))) | (refine both_ways ?_ ?_) | (rw [wrap_i64 (by omega) (by omega)]) | (refine guardV_split (fun h => ?_) (fun h => ?_) <;> (try rw [h]) <;> (try simp at h) <;> (try (exfalso; omega))) | (refine indexAddr_dig Try.underlying65 (by simp [go_sem]) (c []) hb ?_) | (refine build_u8 ?_) | (refine append_bytes E51 S51 (canApp_of hg.c hle) (by simp only [hle, List.length_cons, List.length_nil]; omega) (by simp only [maxL, hle, List.length_cons, List.length_nil]; omega) ?_))
      refine later_intro ⟨i + 1, by omega, growT s tk, by omega, ?_, ?_, ?_, ?_, ?_⟩ <;> (try simp only [go_sem, t1, t3, t4])
      · have := hg.grow (m := i + 1); simpa [hle] using this
      · rw [growS_objs]; exact ho
      · rw [htk]
      · rfl
    · have hb : i = 32 := by simp at hb; omega
      subst hb
      have ht : d.l.take 32 = d.l := List.take_of_length_le (by omega)
      rw [ht] at t3
      repeat' (first | (simp -dsimp only [↓reduceIte, go_sem, t1, t3, t4]) | (refine arr_intro fun _ => ?_) | (refine later_intro ⟨keeps_nil, ?_⟩) | (refine later_intro ⟨keeps_refl, ?_⟩) | (with_reducible refine keeps_go ?_ ?_; focus (first | (simp [keeps_cons, keeps_none, objs_app, objs_app0]; done) | (simp only [keeps_cons, keeps_none, objs_app0, objs_app, and_true]; first | rfl | exact ⟨rfl, rfl⟩ | exact ⟨rfl, rfl, rfl⟩))) | (with_reducible refine (And.intro (a := keeps _ _ _) ?_ ?_); focus (first | (simp [keeps_cons, keeps_none, objs_app, objs_app0]; done) | (simp only [keeps_cons, keeps_none, objs_app0, objs_app, and_true]; first | rfl | exact ⟨rfl, rfl⟩ | exact ⟨rfl, rfl, rfl⟩))) | (refine both_ways ?_ ?_) | (rw [wrap_i64 (by omega) (by omega)]) | (refine guardV_split (fun h => ?_) (fun h => ?_) <;> (try rw [h]) <;> (try simp at h) <;> (try (exfalso; omega))))
      exact ⟨hg.x, rfl, by simpa [AV.strip] using hK⟩

theorem refInts_c {l : List Int} {tk : Tk} {σ : AST} {K : AV → AST → Prop} (hl : InI l) (hn : l.length ≤ 1000000) (hK : K (.str (l.flatMap numS)) σ) : TCalls Try.prog 68 [.slice tk (l.map (AV.int .i64))] σ K := by
  have hN := numsN hl
  refine tcalls_walk Try.f68 _ [.tmp 2] Try.func68 rfl rfl rfl mixed (Nat.le_of_ble_eq_true rfl) rfl fun hlen => ?_
  repeat' (first | (simp -dsimp only [↓reduceIte, go_sem]) | (refine arr_intro fun _ => ?_) | (refine later_intro ⟨keeps_nil, ?_⟩) | (refine later_intro ⟨keeps_refl, ?_⟩) | (with_reducible refine keeps_go ?_ ?_; focus (first | (simp [keeps_cons, keeps_none, objs_app, objs_app0]; done) | (simp only [keeps_cons, keeps_none, objs_app0, objs_app, and_true]; first | rfl | exact ⟨rfl, rfl⟩ | exact ⟨rfl, rfl, rfl⟩))) | (with_reducible refine (And.intro (a := keeps _ _ _) ?_ ?_); focus (first | (simp [keeps_cons, keeps_none, objs_app, objs_app0]; done) | (simp only [keeps_cons, keeps_none, objs_app0, objs_app, and_true]; first | rfl | exact ⟨rfl, rfl⟩ | exact ⟨rfl, rfl, rfl⟩))) | (refine both_ways ?_ ?_) | (rw [wrap_i64 (by omega) (by omega)]) | (refine guardV_split (fun h => ?_) (fun h => ?_) <;> (try rw [h]) <;> (try simp at h) <;> (try (exfalso; omega))))
  refine awp_rounds (fun (i : Nat) τ s => i ≤ l.length ∧ s = σ ∧ τ 0 = .slice tk (l.map (AV.int .i64)) ∧ τ 3 = .str ((l.take i).flatMap numS) ∧ τ 4 = .int .i64 i) (fun i => l.length - i) 0 ?_ ?_
  · refine ⟨by omega, rfl, ?_, ?_, ?_⟩ <;> (try simp only [go_sem]) <;> rfl
  · rintro i τ s ⟨hi, rfl, t0, t3, t4⟩
    have hNi := hN i
    simp -dsimp only [↓reduceIte, go_sem, t0, t3, t4]
    refine arr_intro fun _ => ?_
    simp -dsimp only [↓reduceIte, go_sem, t0, t3, t4]
    refine boolW_split (fun hb => ?_) (fun hb => ?_)
    · have hb : i < l.length := by simp at hb; omega
      obtain ⟨y, hy, hm⟩ := get_of_lt hb
      have htk : (l.take (i + 1)).flatMap numS = (l.take i).flatMap numS ++ numS y := by
        rw [List.take_add_one, hy]; simp
      have h22 := numS_len (hl y hm).1 (hl y hm).2
      repeat' (first | (simp -dsimp only [↓reduceIte, go_sem, t0, t3, t4]) | (refine arr_intro fun _ => ?_) | (refine later_intro ⟨keeps_nil, ?_⟩) | (refine later_intro ⟨keeps_refl, ?_⟩) | (with_reducible refine keeps_go ?_ ?_; focus (first | (simp [keeps_cons, keeps_none, objs_app, objs_app0]; done) | (simp only [keeps_cons, keeps_none, objs_app0, objs_app, and_true]; first | rfl | exact ⟨rfl, rfl⟩ | exact ⟨rfl, rfl, rfl⟩))) | (with_reducible refine (And.intro (a := keeps _ _ _) ?_ ?_); focus (first | (simp [keeps_cons, keeps_none, objs_app, objs_app0]; done) | (simp only [keeps_cons, keeps_none, objs_app0, objs_app, and_true]; first | rfl | exact ⟨rfl, rfl⟩ | exact ⟨rfl, rfl, rfl⟩))) | (refine both_ways ?_ ?_) | (rw [wrap_i64 (by omega) (by omega)]) | (refine guardV_split (fun h => ?_) (fun h => ?_) <;> (try rw [h]) <;> (try simp at h) <;> (try (exfalso; omega))) | (refine nth_get hy ?_) | (refine L01.Number_c (hl y hm).1 (hl y hm).2 ?_) | (refine side_later (by simp only [maxL, List.length_append]; omega) ?_))
      refine ⟨i + 1, by omega, by omega, rfl, ?_, ?_, ?_⟩ <;> (try simp only [go_sem, t0, t3, t4])
      · rw [htk]
      · rfl
    · have hb : i = l.length := by simp at hb; omega
      subst hb
      repeat' (first | (simp -dsimp only [↓reduceIte, go_sem, t0, t3, t4]) | (refine arr_intro fun _ => ?_) | (refine later_intro ⟨keeps_nil, ?_⟩) | (refine later_intro ⟨keeps_refl, ?_⟩) | (with_reducible refine keeps_go ?_ ?_; focus (first | (simp [keeps_cons, keeps_none, objs_app, objs_app0]; done) | (simp only [keeps_cons, keeps_none, objs_app0, objs_app, and_true]; first | rfl | exact ⟨rfl, rfl⟩ | exact ⟨rfl, rfl, rfl⟩))) | (with_reducible refine (And.intro (a := keeps _ _ _) ?_ ?_); focus (first | (simp [keeps_cons, keeps_none, objs_app, objs_app0]; done) | (simp only [keeps_cons, keeps_none, objs_app0, objs_app, and_true]; first | rfl | exact ⟨rfl, rfl⟩ | exact ⟨rfl, rfl, rfl⟩))) | (refine both_ways ?_ ?_) | (rw [wrap_i64 (by omega) (by omega)]) | (refine guardV_split (fun h => ?_) (fun h => ?_) <;> (try rw [h]) <;> (try simp at h) <;> (try (exfalso; omega))))
      simpa using hK

theorem refText_c {t : List UInt8} {σ : AST} {K : AV → AST → Prop} (hn : t.length ≤ 1000000) (hK : K (.str (textS t)) σ) : TCalls Try.prog 69 [.str t] σ K := by
  have hd := dg_len20 (show t.length < 18446744073709551616 by omega)
  refine tcalls_walk Try.f69 _ [.tmp 2] Try.func69 rfl rfl rfl mixed (Nat.le_of_ble_eq_true rfl) rfl fun hlen => ?_
  repeat' (first | (simp -dsimp only [↓reduceIte, go_sem]) | (refine arr_intro fun _ => ?_) | (refine later_intro ⟨keeps_nil, ?_⟩) | (refine later_intro ⟨keeps_refl, ?_⟩) | (with_reducible refine keeps_go ?_ ?_; focus (first | (simp [keeps_cons, keeps_none, objs_app, objs_app0]; done) | (simp only [keeps_cons, keeps_none, objs_app0, objs_app, and_true]; first | rfl | exact ⟨rfl, rfl⟩ | exact ⟨rfl, rfl, rfl⟩))) | (with_reducible refine (And.intro (a := keeps _ _ _) ?_ ?_); focus (first | (simp [keeps_cons, keeps_none, objs_app, objs_app0]; done) | (simp only [keeps_cons, keeps_none, objs_app0, objs_app, and_true]; first | rfl | exact ⟨rfl, rfl⟩ | exact ⟨rfl, rfl, rfl⟩))) | (refine both_ways ?_ ?_) | (rw [wrap_i64 (by omega) (by omega)]) | (refine guardV_split (fun h => ?_) (fun h => ?_) <;> (try rw [h]) <;> (try simp at h) <;> (try (exfalso; omega))) | (refine L01.Digits_c _ (by omega) ?_) | (refine side_later (by simp only [maxL, List.length_append, List.length_cons, List.length_nil]; omega) ?_))
  simpa [textS] using hK

theorem refDig_c {d : Dig} {σ : AST} {K : AV → AST → Prop} (hK : K (.str (digS d)) σ) : TCalls Try.prog 70 [.dig d] σ K := by
  refine TCalls.drop ?_
  refine tcalls_walk Try.f70 _ [.tmp 2] Try.func70 rfl rfl rfl mixed (Nat.le_of_ble_eq_true rfl) rfl fun hlen => ?_
  repeat' (first | (simp -dsimp only [↓reduceIte, go_sem]) | (refine arr_intro fun _ => ?_) | (refine later_intro ⟨keeps_nil, ?_⟩) | (refine later_intro ⟨keeps_refl, ?_⟩) | (with_reducible refine keeps_go ?_ ?_; focus (first | (simp [keeps_cons, keeps_none, objs_app, objs_app0]; done) | (simp only [keeps_cons, keeps_none, objs_app0, objs_app, and_true]; first | rfl | exact ⟨rfl, rfl⟩ | exact ⟨rfl, rfl, rfl⟩))) | (with_reducible refine (And.intro (a := keeps _ _ _) ?_ ?_); focus (first | (simp [keeps_cons, keeps_none, objs_app, objs_app0]; done) | (simp only [keeps_cons, keeps_none, objs_app0, objs_app, and_true]; first | rfl | exact ⟨rfl, rfl⟩ | exact ⟨rfl, rfl, rfl⟩))) | (refine both_ways ?_ ?_) | (rw [wrap_i64 (by omega) (by omega)]) | (refine guardV_split (fun h => ?_) (fun h => ?_) <;> (try rw [h]) <;> (try simp at h) <;> (try (exfalso; omega))) | (refine refBytes_c ?_) | (refine refText_c (by simp [d.h]) ?_))
  exact ⟨Ext.app _ _, rfl, by simpa [AV.strip] using hK⟩

section
variable {σ : AST} {K : AV → AST → Prop} {tk : Tk}
theorem refInts2_c {a b : Int} (h : InI [a, b]) (hK : K (.str ([a, b].flatMap numS)) σ) : TCalls Try.prog 68 [.slice tk [.int .i64 a, .int .i64 b]] σ K := refInts_c (l := [a, b]) h (by simp) hK
theorem refInts3_c {a b c : Int} (h : InI [a, b, c]) (hK : K (.str ([a, b, c].flatMap numS)) σ) : TCalls Try.prog 68 [.slice tk [.int .i64 a, .int .i64 b, .int .i64 c]] σ K := refInts_c (l := [a, b, c]) h (by simp) hK
theorem refInts4_c {a b c d : Int} (h : InI [a, b, c, d]) (hK : K (.str ([a, b, c, d].flatMap numS)) σ) : TCalls Try.prog 68 [.slice tk [.int .i64 a, .int .i64 b, .int .i64 c, .int .i64 d]] σ K := refInts_c (l := [a, b, c, d]) h (by simp) hK
end
theorem InI.len {l : List Int} (h : InI l) : (l.flatMap numS).length ≤ l.length * 22 := by have := numsN h l.length; simpa using this
theorem digS_len (d : Dig) : (digS d).length ≤ 53 := textS_le (m := 32) (by simp [d.h]) (by omega)

theorem refAns_c {x : Rep} (hok : x.Ok) {tk : Tk} {σ : AST} {K : AV → AST → Prop} (hK : K (.str (ansB x)) σ) : TCalls Try.prog 71 [repV tk x] σ K := by
  obtain ⟨hp, h1, h2, h3, h4, h5, h6, h7, h8⟩ := hok
  simp only [In, ViewOk] at h1 h2 h5 h6 h7
  refine TCalls.drop ?_
  refine tcalls_walk Try.f71 _ [.tmp 2] Try.func71 rfl rfl rfl mixed (Nat.le_of_ble_eq_true rfl) rfl fun hlen => ?_
  have i1 : InI [x.num, x.last] := by (intro n hn; simp at hn; omega)
  have l1 := i1.len
  have l2 := textS_le (s := x.view) (m := 512) (by omega) (by omega)
  have l3 := digS_len x.commit
  have i4 : InI [(x.pending.length : Int)] := by (intro n hn; simp at hn; omega)
  have l4 := i4.len
  simp only [List.flatMap_cons, List.flatMap_nil, List.append_nil] at l4
  repeat' (first | (simp -dsimp only [↓reduceIte, go_sem]) | (refine arr_intro fun _ => ?_) | (refine later_intro ⟨keeps_nil, ?_⟩) | (refine later_intro ⟨keeps_refl, ?_⟩) | (with_reducible refine keeps_go ?_ ?_; focus (first | (simp [keeps_cons, keeps_none, objs_app, objs_app0]; done) | (simp only [keeps_cons, keeps_none, objs_app0, objs_app, and_true]; first | rfl | exact ⟨rfl, rfl⟩ | exact ⟨rfl, rfl, rfl⟩))) | (with_reducible refine (And.intro (a := keeps _ _ _) ?_ ?_); focus (first | (simp [keeps_cons, keeps_none, objs_app, objs_app0]; done) | (simp only [keeps_cons, keeps_none, objs_app0, objs_app, and_true]; first | rfl | exact ⟨rfl, rfl⟩ | exact ⟨rfl, rfl, rfl⟩))) | (refine both_ways ?_ ?_) | (rw [wrap_i64 (by omega) (by omega)]) | (refine guardV_split (fun h => ?_) (fun h => ?_) <;> (try rw [h]) <;> (try simp at h) <;> (try (exfalso; omega))) | (with_reducible refine awp_drawS (id := 1) [0, 1, 2, 3, 4, 6, 7, 10, 11, 14, 15, 16, 5, 8, 9, 12, 13, 17, 18, 19] (by kernel_rfl) ?_) | (refine bI2 ?_) | (refine refInts2_c i1 ?_) | (refine refText_c (by omega) ?_) | (refine refDig_c ?_) | (refine L01.Number_c (by omega) (by omega) ?_) | (with_reducible refine side_later (by (simp only [maxL, List.length_append, List.length_cons, List.length_nil] at *; omega)) ?_))
  have hz : ∀ i, ((x.pending.take i).flatMap pendB).length ≤ x.pending.length * 194 := fun i => flatN fun p hm => by
    have h1 := numsN (hp p hm).in_ 4
    have h2 := digs_take (l := [p.asked, p.proof]) (i := 2)
    simp at h1 h2
    simp [pendB]; omega
  generalize hys : [x.num, x.last].flatMap numS ++ textS x.view ++ digS x.commit ++ numS x.pending.length = ys
  have hy : ys.length ≤ 2000 := by rw [← hys]; (simp only [maxL, List.length_append, List.length_cons, List.length_nil] at *; omega)
  refine awp_rounds (fun (i : Nat) τ s => i ≤ x.pending.length ∧ Ext σ s ∧ s.objs[σ.objs.length]? = some (.cells (repV tk x)) ∧ τ 1 = .ptr (some (σ.objs.length, [])) ∧ τ 3 = .str (ys ++ (x.pending.take i).flatMap pendB) ∧ τ 4 = .int .i64 i) (fun i => x.pending.length - i) 0 ?_ ?_
  · refine ⟨by omega, Ext.app _ _, objs_app0, ?_, ?_, ?_⟩ <;> (try simp only [go_sem]) <;> (try rfl)
    rw [← hys]; simp
  · rintro i τ s ⟨hi, hx, ho, t1, t3, t4⟩
    have hzi := hz i
    have c := cellAt_known ho
    have hlt := (List.getElem?_eq_some_iff.1 ho).1
    simp -dsimp only [↓reduceIte, go_sem, t1, t3, t4, c]
    refine arr_intro fun _ => ?_
    simp -dsimp only [↓reduceIte, go_sem, t1, t3, t4, c]
    refine boolW_split (fun hb => ?_) (fun hb => ?_)
    · have hb : i < x.pending.length := by simp at hb; omega
      obtain ⟨y, hy, hm⟩ := get_of_lt hb
      have htk : (x.pending.take (i + 1)).flatMap pendB = (x.pending.take i).flatMap pendB ++ pendB y := by
        rw [List.take_add_one, hy]; simp
      have hq := (hp y hm).in_
      have m1 := hq.len
      have m2 := digS_len y.asked
      have m3 := digS_len y.proof
      repeat' (first | (simp -dsimp only [↓reduceIte, go_sem, t1, t3, t4, c]) | (refine arr_intro fun _ => ?_) | (refine later_intro ⟨keeps_nil, ?_⟩) | (refine later_intro ⟨keeps_refl, ?_⟩) | (with_reducible refine keeps_go ?_ ?_; focus (first | (simp [keeps_cons, keeps_none, objs_app, objs_app0]; done) | (simp only [keeps_cons, keeps_none, objs_app0, objs_app, and_true]; first | rfl | exact ⟨rfl, rfl⟩ | exact ⟨rfl, rfl, rfl⟩))) | (with_reducible refine (And.intro (a := keeps _ _ _) ?_ ?_); focus (first | (simp [keeps_cons, keeps_none, objs_app, objs_app0]; done) | (simp only [keeps_cons, keeps_none, objs_app0, objs_app, and_true]; first | rfl | exact ⟨rfl, rfl⟩ | exact ⟨rfl, rfl, rfl⟩))) | (refine both_ways ?_ ?_) | (rw [wrap_i64 (by omega) (by omega)]) | (refine guardV_split (fun h => ?_) (fun h => ?_) <;> (try rw [h]) <;> (try simp at h) <;> (try (exfalso; omega))) | (refine nth_get hy ?_) | (with_reducible refine awp_drawS (id := 6) [0, 1, 2, 3, 4, 5, 6, 7, 8, 9, 12, 13, 16, 17, 10, 11, 14, 15, 18, 19, 20] (by kernel_rfl) ?_) | (refine bI4 ?_) | (refine refInts4_c hq ?_) | (refine refDig_c ?_) | (with_reducible refine side_later (by (simp only [maxL, List.length_append, List.length_cons, List.length_nil] at *; omega)) ?_))
      refine later_intro ⟨i + 1, by omega, by omega, hx.trans (Ext.app _ _), objs_known_app ho _, ?_, ?_, ?_⟩ <;> (try simp only [go_sem, t1, t3, t4]) <;> (try rfl)
      rw [htk]; simp [pendB]
    · have hb : i = x.pending.length := by simp at hb; omega
      subst hb
      have i5 : InI [x.vnum] := by (intro n hn; simp at hn; omega)
      have l5 := i5.len
      simp only [List.flatMap_cons, List.flatMap_nil, List.append_nil] at l5
      have l6 := textS_le (s := x.value) (m := 256) (by omega) (by omega)
      have l7 := digS_len x.data
      have l8 := textS_le (s := x.seen) (m := 512) (by omega) (by omega)
      have l9 := digS_len x.seenTag
      repeat' (first | (simp -dsimp only [↓reduceIte, go_sem, t1, t3, t4, c]) | (refine arr_intro fun _ => ?_) | (refine later_intro ⟨keeps_nil, ?_⟩) | (refine later_intro ⟨keeps_refl, ?_⟩) | (with_reducible refine keeps_go ?_ ?_; focus (first | (simp [keeps_cons, keeps_none, objs_app, objs_app0]; done) | (simp only [keeps_cons, keeps_none, objs_app0, objs_app, and_true]; first | rfl | exact ⟨rfl, rfl⟩ | exact ⟨rfl, rfl, rfl⟩))) | (with_reducible refine (And.intro (a := keeps _ _ _) ?_ ?_); focus (first | (simp [keeps_cons, keeps_none, objs_app, objs_app0]; done) | (simp only [keeps_cons, keeps_none, objs_app0, objs_app, and_true]; first | rfl | exact ⟨rfl, rfl⟩ | exact ⟨rfl, rfl, rfl⟩))) | (refine both_ways ?_ ?_) | (rw [wrap_i64 (by omega) (by omega)]) | (refine guardV_split (fun h => ?_) (fun h => ?_) <;> (try rw [h]) <;> (try simp at h) <;> (try (exfalso; omega))) | (with_reducible refine awp_drawS (id := 7) [0, 1, 2, 5, 6, 9, 10, 13, 14, 17, 18, 3, 4, 7, 8, 11, 12, 15, 16, 19, 20, 21] (by kernel_rfl) ?_) | (refine refText_c (by omega) ?_) | (refine refDig_c ?_) | (refine L01.Number_c (by omega) (by omega) ?_) | (with_reducible refine side_later (by (simp only [maxL, List.length_append, List.length_cons, List.length_nil] at *; omega)) ?_))
      refine ⟨hx, rfl, ?_⟩
      rw [← hys]
      simpa [AV.strip, ansB] using hK
theorem ansB_len {x : Rep} (hok : x.Ok) : (ansB x).length ≤ 100000 := by
  obtain ⟨hp, h1, h2, h3, h4, h5, h6, h7, h8⟩ := hok
  simp only [In, ViewOk] at h1 h2 h5 h6 h7
  have hz : (x.pending.flatMap pendB).length ≤ x.pending.length * 194 := flat_len fun p hm => by
    have h1 := numsN (hp p hm).in_ 4
    have h2 := digs_take (l := [p.asked, p.proof]) (i := 2)
    simp at h1 h2
    simp [pendB]; omega
  have i1 : InI [x.num, x.last] := by (intro n hn; simp at hn; omega)
  have l1 := i1.len
  have l2 := textS_le (s := x.view) (m := 512) (by omega) (by omega)
  have l3 := digS_len x.commit
  have i4 : InI [(x.pending.length : Int)] := by (intro n hn; simp at hn; omega)
  have l4 := i4.len
  have i5 : InI [x.vnum] := by (intro n hn; simp at hn; omega)
  have l5 := i5.len
  have l6 := textS_le (s := x.value) (m := 256) (by omega) (by omega)
  have l7 := digS_len x.data
  have l8 := textS_le (s := x.seen) (m := 512) (by omega) (by omega)
  have l9 := digS_len x.seenTag
  simp only [List.length_cons, List.length_nil, List.flatMap_cons, List.flatMap_nil, List.append_nil, List.length_append] at *
  simp only [ansB, List.length_append, List.flatMap_cons, List.flatMap_nil, List.append_nil]
  omega
theorem numS2 : numS 2 = [50, 59] := by rw [numS, if_neg (by decide)]; rw [show (2 : Int).natAbs = 2 from rfl, dg_small (by decide)]; rfl
theorem lay_c {m : Msg} (hok : m.Ok) {t u : Tk} {σ : AST} {K : AV → AST → Prop} (hK : K (.str m.bytes) σ) : TCalls Try.prog 24 [msgV t u m] σ K := by
  refine TCalls.drop ?_
  have hkinds := hok.kinds
  obtain ⟨hf, hc, ho⟩ := hok
  simp only [In] at hc
  have hk1 : 1 ≤ m.kind ∧ m.kind ≤ 11 := by omega
  have i1 : InI [m.kind, m.client] := by (intro n hn; simp at hn; omega)
  have l1 := i1.len
  have n2 := numS2
  refine tcalls_walk Try.f24 _ [.tmp 2] Try.func24 rfl rfl rfl mixed (Nat.le_of_ble_eq_true rfl) rfl fun hlen => ?_
  simp -dsimp only [↓reduceIte, go_sem]
  refine bI2 ?_
  simp -dsimp only [↓reduceIte, go_sem]
  refine refInts2_c i1 ?_
  simp -dsimp only [↓reduceIte, go_sem]
  rcases hkinds with ⟨hq, hs⟩ | ⟨hq, hs⟩ | ⟨hq, hs⟩ | ⟨hq, hs⟩ | ⟨hq, hs⟩ | ⟨hq, hs⟩ | ⟨hq, hs⟩ | ⟨hq, hs⟩ | hq | ⟨hq, hs⟩ | hq
  · rw [hq] at l1
    obtain ⟨o1, o2, o3, o4⟩ := hs
    simp only [In] at o1 o2 o3
    have i2 : InI [m.sub.num, m.sub.kind, m.sub.target] := by (intro n hn; simp at hn; omega)
    have l2 := i2.len
    have l3 := textS_le (s := m.sub.value) (m := 256) (by omega) (by omega)
    have l4 := digS_len m.sub.asked
    have l5 := digS_len m.sub.data
    repeat' (first | (simp -dsimp only [↓reduceIte, go_sem, hq]) | (refine arr_intro fun _ => ?_) | (refine later_intro ⟨keeps_nil, ?_⟩) | (refine later_intro ⟨keeps_refl, ?_⟩) | (with_reducible refine keeps_go ?_ ?_; focus (first | (simp [keeps_cons, keeps_none, objs_app, objs_app0]; done) | (simp only [keeps_cons, keeps_none, objs_app0, objs_app, and_true]; first | rfl | exact ⟨rfl, rfl⟩ | exact ⟨rfl, rfl, rfl⟩))) | (with_reducible refine (And.intro (a := keeps _ _ _) ?_ ?_); focus (first | (simp [keeps_cons, keeps_none, objs_app, objs_app0]; done) | (simp only [keeps_cons, keeps_none, objs_app0, objs_app, and_true]; first | rfl | exact ⟨rfl, rfl⟩ | exact ⟨rfl, rfl, rfl⟩))) | (refine both_ways ?_ ?_) | (rw [wrap_i64 (by omega) (by omega)]) | (refine guardV_split (fun h => ?_) (fun h => ?_) <;> (try rw [h]) <;> (try simp at h) <;> (try (exfalso; omega))) | (with_reducible refine awp_drawS (id := 4) [0, 1, 2, 3, 4, 5, 6, 7, 8, 9, 10, 13, 14, 15, 18, 19, 20, 23, 24, 25, 11, 12, 16, 17, 21, 22, 26, 27, 28] (by kernel_rfl) ?_) | (refine bI1 ?_) | (refine bI2 ?_) | (refine bI3 ?_) | (refine refDig_c ?_) | (with_reducible refine side_later (by (simp only [maxL, List.length_append, List.length_cons, List.length_nil] at *; omega)) ?_) | (refine refInts3_c i2 ?_) | (refine refText_c (by omega) ?_))
    refine ⟨Ext.app _ _, rfl, ?_⟩
    simpa [AV.strip, Msg.bytes, Msg.rest, hq, subB, blobB, laidAll, part_all] using hK
  · rw [hq] at l1
    have l2 := ansB_len hs
    repeat' (first | (simp -dsimp only [↓reduceIte, go_sem, hq]) | (refine arr_intro fun _ => ?_) | (refine later_intro ⟨keeps_nil, ?_⟩) | (refine later_intro ⟨keeps_refl, ?_⟩) | (with_reducible refine keeps_go ?_ ?_; focus (first | (simp [keeps_cons, keeps_none, objs_app, objs_app0]; done) | (simp only [keeps_cons, keeps_none, objs_app0, objs_app, and_true]; first | rfl | exact ⟨rfl, rfl⟩ | exact ⟨rfl, rfl, rfl⟩))) | (with_reducible refine (And.intro (a := keeps _ _ _) ?_ ?_); focus (first | (simp [keeps_cons, keeps_none, objs_app, objs_app0]; done) | (simp only [keeps_cons, keeps_none, objs_app0, objs_app, and_true]; first | rfl | exact ⟨rfl, rfl⟩ | exact ⟨rfl, rfl, rfl⟩))) | (refine both_ways ?_ ?_) | (rw [wrap_i64 (by omega) (by omega)]) | (refine guardV_split (fun h => ?_) (fun h => ?_) <;> (try rw [h]) <;> (try simp at h) <;> (try (exfalso; omega))) | (refine bI1 ?_) | (refine bI2 ?_) | (refine bI3 ?_) | (refine refDig_c ?_) | (with_reducible refine side_later (by (simp only [maxL, List.length_append, List.length_cons, List.length_nil] at *; omega)) ?_) | (refine refAns_c hs ?_))
    refine ⟨Ext.app _ _, rfl, ?_⟩
    simpa [AV.strip, Msg.bytes, Msg.rest, hq, subB, blobB, n2] using hK
  · rw [hq] at l1
    obtain ⟨_, o1, o2, _⟩ := hs
    have l2 := textS_le (s := m.view) (m := 512) (by omega) (by omega)
    have l4 := digS_len m.tag
    repeat' (first | (simp -dsimp only [↓reduceIte, go_sem, hq]) | (refine arr_intro fun _ => ?_) | (refine later_intro ⟨keeps_nil, ?_⟩) | (refine later_intro ⟨keeps_refl, ?_⟩) | (with_reducible refine keeps_go ?_ ?_; focus (first | (simp [keeps_cons, keeps_none, objs_app, objs_app0]; done) | (simp only [keeps_cons, keeps_none, objs_app0, objs_app, and_true]; first | rfl | exact ⟨rfl, rfl⟩ | exact ⟨rfl, rfl, rfl⟩))) | (with_reducible refine (And.intro (a := keeps _ _ _) ?_ ?_); focus (first | (simp [keeps_cons, keeps_none, objs_app, objs_app0]; done) | (simp only [keeps_cons, keeps_none, objs_app0, objs_app, and_true]; first | rfl | exact ⟨rfl, rfl⟩ | exact ⟨rfl, rfl, rfl⟩))) | (refine both_ways ?_ ?_) | (rw [wrap_i64 (by omega) (by omega)]) | (refine guardV_split (fun h => ?_) (fun h => ?_) <;> (try rw [h]) <;> (try simp at h) <;> (try (exfalso; omega))) | (with_reducible refine awp_drawS (id := 8) [0, 1, 2, 5, 6, 3, 4, 7, 8, 9] (by kernel_rfl) ?_) | (refine bI1 ?_) | (refine bI2 ?_) | (refine bI3 ?_) | (refine refDig_c ?_) | (with_reducible refine side_later (by (simp only [maxL, List.length_append, List.length_cons, List.length_nil] at *; omega)) ?_) | (refine refText_c (by omega) ?_))
    refine ⟨Ext.app _ _, rfl, ?_⟩
    simpa [AV.strip, Msg.bytes, Msg.rest, hq, subB, blobB, laidAll, part_all] using hK
  · rw [hq] at l1
    obtain ⟨o1, o2, o3⟩ := hs
    simp only [In] at o1 o2
    have i2 : InI [m.blob.owner, m.blob.num] := by (intro n hn; simp at hn; omega)
    have l2 := i2.len
    have l3 := textS_le (s := m.blob.cipher) (m := 4096) (by omega) (by omega)
    have l4 := digS_len m.blob.tag
    have l6 := numS_len (n := m.kind) (by omega) (by omega)
    rw [hq] at l6
    repeat' (first | (simp -dsimp only [↓reduceIte, go_sem, hq]) | (refine arr_intro fun _ => ?_) | (refine later_intro ⟨keeps_nil, ?_⟩) | (refine later_intro ⟨keeps_refl, ?_⟩) | (with_reducible refine keeps_go ?_ ?_; focus (first | (simp [keeps_cons, keeps_none, objs_app, objs_app0]; done) | (simp only [keeps_cons, keeps_none, objs_app0, objs_app, and_true]; first | rfl | exact ⟨rfl, rfl⟩ | exact ⟨rfl, rfl, rfl⟩))) | (with_reducible refine (And.intro (a := keeps _ _ _) ?_ ?_); focus (first | (simp [keeps_cons, keeps_none, objs_app, objs_app0]; done) | (simp only [keeps_cons, keeps_none, objs_app0, objs_app, and_true]; first | rfl | exact ⟨rfl, rfl⟩ | exact ⟨rfl, rfl, rfl⟩))) | (refine both_ways ?_ ?_) | (rw [wrap_i64 (by omega) (by omega)]) | (refine guardV_split (fun h => ?_) (fun h => ?_) <;> (try rw [h]) <;> (try simp at h) <;> (try (exfalso; omega))) | (with_reducible refine awp_drawS (id := 11) [0, 1, 3, 4, 5, 6, 7, 8, 9, 12, 13, 14, 17, 18, 19, 2, 10, 11, 15, 16, 20, 21, 22] (by kernel_rfl) ?_) | (refine bI1 ?_) | (refine bI2 ?_) | (refine bI3 ?_) | (refine refDig_c ?_) | (with_reducible refine side_later (by (simp only [maxL, List.length_append, List.length_cons, List.length_nil] at *; omega)) ?_) | (refine L01.Number_c (by omega) (by omega) ?_) | (refine refInts2_c i2 ?_) | (refine refText_c (by omega) ?_))
    refine ⟨Ext.app _ _, rfl, ?_⟩
    simpa [AV.strip, Msg.bytes, Msg.rest, hq, subB, blobB, laidAll, part_all] using hK
  · rw [hq] at l1
    have i2 := hs.in_
    have l2 := i2.len
    have hs2 := hs.2
    simp only [In] at hs2
    repeat' (first | (simp -dsimp only [↓reduceIte, go_sem, hq]) | (refine arr_intro fun _ => ?_) | (refine later_intro ⟨keeps_nil, ?_⟩) | (refine later_intro ⟨keeps_refl, ?_⟩) | (with_reducible refine keeps_go ?_ ?_; focus (first | (simp [keeps_cons, keeps_none, objs_app, objs_app0]; done) | (simp only [keeps_cons, keeps_none, objs_app0, objs_app, and_true]; first | rfl | exact ⟨rfl, rfl⟩ | exact ⟨rfl, rfl, rfl⟩))) | (with_reducible refine (And.intro (a := keeps _ _ _) ?_ ?_); focus (first | (simp [keeps_cons, keeps_none, objs_app, objs_app0]; done) | (simp only [keeps_cons, keeps_none, objs_app0, objs_app, and_true]; first | rfl | exact ⟨rfl, rfl⟩ | exact ⟨rfl, rfl, rfl⟩))) | (refine both_ways ?_ ?_) | (rw [wrap_i64 (by omega) (by omega)]) | (refine guardV_split (fun h => ?_) (fun h => ?_) <;> (try rw [h]) <;> (try simp at h) <;> (try (exfalso; omega))) | (refine bI1 ?_) | (refine bI2 ?_) | (refine bI3 ?_) | (refine refDig_c ?_) | (with_reducible refine side_later (by (simp only [maxL, List.length_append, List.length_cons, List.length_nil] at *; omega)) ?_) | (refine refInts_c hs.in_ (by omega) ?_))
    refine ⟨Ext.app _ _, rfl, ?_⟩
    simpa [AV.strip, Msg.bytes, Msg.rest, hq, subB, blobB, laidAll, part_all] using hK
  · rw [hq] at l1
    obtain ⟨o1, o2, o3⟩ := hs
    simp only [In] at o1 o2
    have i2 : InI [m.blob.owner, m.blob.num] := by (intro n hn; simp at hn; omega)
    have l2 := i2.len
    have l3 := textS_le (s := m.blob.cipher) (m := 4096) (by omega) (by omega)
    have l4 := digS_len m.blob.tag
    have l6 := numS_len (n := m.kind) (by omega) (by omega)
    rw [hq] at l6
    repeat' (first | (simp -dsimp only [↓reduceIte, go_sem, hq]) | (refine arr_intro fun _ => ?_) | (refine later_intro ⟨keeps_nil, ?_⟩) | (refine later_intro ⟨keeps_refl, ?_⟩) | (with_reducible refine keeps_go ?_ ?_; focus (first | (simp [keeps_cons, keeps_none, objs_app, objs_app0]; done) | (simp only [keeps_cons, keeps_none, objs_app0, objs_app, and_true]; first | rfl | exact ⟨rfl, rfl⟩ | exact ⟨rfl, rfl, rfl⟩))) | (with_reducible refine (And.intro (a := keeps _ _ _) ?_ ?_); focus (first | (simp [keeps_cons, keeps_none, objs_app, objs_app0]; done) | (simp only [keeps_cons, keeps_none, objs_app0, objs_app, and_true]; first | rfl | exact ⟨rfl, rfl⟩ | exact ⟨rfl, rfl, rfl⟩))) | (refine both_ways ?_ ?_) | (rw [wrap_i64 (by omega) (by omega)]) | (refine guardV_split (fun h => ?_) (fun h => ?_) <;> (try rw [h]) <;> (try simp at h) <;> (try (exfalso; omega))) | (with_reducible refine awp_drawS (id := 11) [0, 1, 3, 4, 5, 6, 7, 8, 9, 12, 13, 14, 17, 18, 19, 2, 10, 11, 15, 16, 20, 21, 22] (by kernel_rfl) ?_) | (refine bI1 ?_) | (refine bI2 ?_) | (refine bI3 ?_) | (refine refDig_c ?_) | (with_reducible refine side_later (by (simp only [maxL, List.length_append, List.length_cons, List.length_nil] at *; omega)) ?_) | (refine L01.Number_c (by omega) (by omega) ?_) | (refine refInts2_c i2 ?_) | (refine refText_c (by omega) ?_))
    refine ⟨Ext.app _ _, rfl, ?_⟩
    simpa [AV.strip, Msg.bytes, Msg.rest, hq, subB, blobB, laidAll, part_all] using hK
  · rw [hq] at l1
    have i2 := hs.in_
    have l2 := i2.len
    have hs2 := hs.2
    simp only [In] at hs2
    repeat' (first | (simp -dsimp only [↓reduceIte, go_sem, hq]) | (refine arr_intro fun _ => ?_) | (refine later_intro ⟨keeps_nil, ?_⟩) | (refine later_intro ⟨keeps_refl, ?_⟩) | (with_reducible refine keeps_go ?_ ?_; focus (first | (simp [keeps_cons, keeps_none, objs_app, objs_app0]; done) | (simp only [keeps_cons, keeps_none, objs_app0, objs_app, and_true]; first | rfl | exact ⟨rfl, rfl⟩ | exact ⟨rfl, rfl, rfl⟩))) | (with_reducible refine (And.intro (a := keeps _ _ _) ?_ ?_); focus (first | (simp [keeps_cons, keeps_none, objs_app, objs_app0]; done) | (simp only [keeps_cons, keeps_none, objs_app0, objs_app, and_true]; first | rfl | exact ⟨rfl, rfl⟩ | exact ⟨rfl, rfl, rfl⟩))) | (refine both_ways ?_ ?_) | (rw [wrap_i64 (by omega) (by omega)]) | (refine guardV_split (fun h => ?_) (fun h => ?_) <;> (try rw [h]) <;> (try simp at h) <;> (try (exfalso; omega))) | (refine bI1 ?_) | (refine bI2 ?_) | (refine bI3 ?_) | (refine refDig_c ?_) | (with_reducible refine side_later (by (simp only [maxL, List.length_append, List.length_cons, List.length_nil] at *; omega)) ?_) | (refine refInts_c hs.in_ (by omega) ?_))
    refine ⟨Ext.app _ _, rfl, ?_⟩
    simpa [AV.strip, Msg.bytes, Msg.rest, hq, subB, blobB, laidAll, part_all] using hK
  · rw [hq] at l1
    have i2 := hs.in_
    have l2 := i2.len
    have hs2 := hs.2
    simp only [In] at hs2
    repeat' (first | (simp -dsimp only [↓reduceIte, go_sem, hq]) | (refine arr_intro fun _ => ?_) | (refine later_intro ⟨keeps_nil, ?_⟩) | (refine later_intro ⟨keeps_refl, ?_⟩) | (with_reducible refine keeps_go ?_ ?_; focus (first | (simp [keeps_cons, keeps_none, objs_app, objs_app0]; done) | (simp only [keeps_cons, keeps_none, objs_app0, objs_app, and_true]; first | rfl | exact ⟨rfl, rfl⟩ | exact ⟨rfl, rfl, rfl⟩))) | (with_reducible refine (And.intro (a := keeps _ _ _) ?_ ?_); focus (first | (simp [keeps_cons, keeps_none, objs_app, objs_app0]; done) | (simp only [keeps_cons, keeps_none, objs_app0, objs_app, and_true]; first | rfl | exact ⟨rfl, rfl⟩ | exact ⟨rfl, rfl, rfl⟩))) | (refine both_ways ?_ ?_) | (rw [wrap_i64 (by omega) (by omega)]) | (refine guardV_split (fun h => ?_) (fun h => ?_) <;> (try rw [h]) <;> (try simp at h) <;> (try (exfalso; omega))) | (refine bI1 ?_) | (refine bI2 ?_) | (refine bI3 ?_) | (refine refDig_c ?_) | (with_reducible refine side_later (by (simp only [maxL, List.length_append, List.length_cons, List.length_nil] at *; omega)) ?_) | (refine refInts_c hs.in_ (by omega) ?_))
    refine ⟨Ext.app _ _, rfl, ?_⟩
    simpa [AV.strip, Msg.bytes, Msg.rest, hq, subB, blobB, laidAll, part_all] using hK
  · rw [hq] at l1
    repeat' (first | (simp -dsimp only [↓reduceIte, go_sem, hq]) | (refine arr_intro fun _ => ?_) | (refine later_intro ⟨keeps_nil, ?_⟩) | (refine later_intro ⟨keeps_refl, ?_⟩) | (with_reducible refine keeps_go ?_ ?_; focus (first | (simp [keeps_cons, keeps_none, objs_app, objs_app0]; done) | (simp only [keeps_cons, keeps_none, objs_app0, objs_app, and_true]; first | rfl | exact ⟨rfl, rfl⟩ | exact ⟨rfl, rfl, rfl⟩))) | (with_reducible refine (And.intro (a := keeps _ _ _) ?_ ?_); focus (first | (simp [keeps_cons, keeps_none, objs_app, objs_app0]; done) | (simp only [keeps_cons, keeps_none, objs_app0, objs_app, and_true]; first | rfl | exact ⟨rfl, rfl⟩ | exact ⟨rfl, rfl, rfl⟩))) | (refine both_ways ?_ ?_) | (rw [wrap_i64 (by omega) (by omega)]) | (refine guardV_split (fun h => ?_) (fun h => ?_) <;> (try rw [h]) <;> (try simp at h) <;> (try (exfalso; omega))) | (refine bI1 ?_) | (refine bI2 ?_) | (refine bI3 ?_) | (refine refDig_c ?_) | (with_reducible refine side_later (by (simp only [maxL, List.length_append, List.length_cons, List.length_nil] at *; omega)) ?_))
    refine ⟨Ext.app _ _, rfl, ?_⟩
    simpa [AV.strip, Msg.bytes, Msg.rest, hq, subB, blobB, laidAll, part_all] using hK
  · rw [hq] at l1
    obtain ⟨o0, _, o1, o2, _⟩ := hs
    simp only [In] at o0
    have l2 := textS_le (s := m.view) (m := 512) (by omega) (by omega)
    have l4 := digS_len m.tag
    have l6 := numS_len (n := m.by_) (by omega) (by omega)
    have l7 := digS_len m.own
    repeat' (first | (simp -dsimp only [↓reduceIte, go_sem, hq]) | (refine arr_intro fun _ => ?_) | (refine later_intro ⟨keeps_nil, ?_⟩) | (refine later_intro ⟨keeps_refl, ?_⟩) | (with_reducible refine keeps_go ?_ ?_; focus (first | (simp [keeps_cons, keeps_none, objs_app, objs_app0]; done) | (simp only [keeps_cons, keeps_none, objs_app0, objs_app, and_true]; first | rfl | exact ⟨rfl, rfl⟩ | exact ⟨rfl, rfl, rfl⟩))) | (with_reducible refine (And.intro (a := keeps _ _ _) ?_ ?_); focus (first | (simp [keeps_cons, keeps_none, objs_app, objs_app0]; done) | (simp only [keeps_cons, keeps_none, objs_app0, objs_app, and_true]; first | rfl | exact ⟨rfl, rfl⟩ | exact ⟨rfl, rfl, rfl⟩))) | (refine both_ways ?_ ?_) | (rw [wrap_i64 (by omega) (by omega)]) | (refine guardV_split (fun h => ?_) (fun h => ?_) <;> (try rw [h]) <;> (try simp at h) <;> (try (exfalso; omega))) | (with_reducible refine awp_drawS (id := 17) [0, 1, 2, 5, 6, 9, 10, 13, 14, 3, 4, 7, 8, 11, 12, 15, 16, 17] (by kernel_rfl) ?_) | (refine bI1 ?_) | (refine bI2 ?_) | (refine bI3 ?_) | (refine refDig_c ?_) | (with_reducible refine side_later (by (simp only [maxL, List.length_append, List.length_cons, List.length_nil] at *; omega)) ?_) | (refine L01.Number_c (by omega) (by omega) ?_) | (refine refText_c (by omega) ?_))
    refine ⟨Ext.app _ _, rfl, ?_⟩
    simpa [AV.strip, Msg.bytes, Msg.rest, hq, subB, blobB, laidAll, part_all] using hK
  · rw [hq] at l1
    have l7 := digS_len m.own
    repeat' (first | (simp -dsimp only [↓reduceIte, go_sem, hq]) | (refine arr_intro fun _ => ?_) | (refine later_intro ⟨keeps_nil, ?_⟩) | (refine later_intro ⟨keeps_refl, ?_⟩) | (with_reducible refine keeps_go ?_ ?_; focus (first | (simp [keeps_cons, keeps_none, objs_app, objs_app0]; done) | (simp only [keeps_cons, keeps_none, objs_app0, objs_app, and_true]; first | rfl | exact ⟨rfl, rfl⟩ | exact ⟨rfl, rfl, rfl⟩))) | (with_reducible refine (And.intro (a := keeps _ _ _) ?_ ?_); focus (first | (simp [keeps_cons, keeps_none, objs_app, objs_app0]; done) | (simp only [keeps_cons, keeps_none, objs_app0, objs_app, and_true]; first | rfl | exact ⟨rfl, rfl⟩ | exact ⟨rfl, rfl, rfl⟩))) | (refine both_ways ?_ ?_) | (rw [wrap_i64 (by omega) (by omega)]) | (refine guardV_split (fun h => ?_) (fun h => ?_) <;> (try rw [h]) <;> (try simp at h) <;> (try (exfalso; omega))) | (refine bI1 ?_) | (refine bI2 ?_) | (refine bI3 ?_) | (refine refDig_c ?_) | (with_reducible refine side_later (by (simp only [maxL, List.length_append, List.length_cons, List.length_nil] at *; omega)) ?_))
    refine ⟨Ext.app _ _, rfl, ?_⟩
    simpa [AV.strip, Msg.bytes, Msg.rest, hq, subB, blobB, laidAll, part_all] using hK
theorem appc {α : Type} {a : α} {l m : List α} : List.append (a :: l) m = a :: List.append l m := rfl
theorem appn {α : Type} {m : List α} : List.append [] m = m := rfl
attribute [local go_sem] bin_bool_ne appc appn

theorem refHist_c {t : List UInt8} {k : Int} {σ : AST} {K : AV → AST → Prop} (hk : -9223372036854775808 < k) (hk2 : k ≤ 9223372036854775807) (hK : K (.bool (decide (ViewOk k t))) σ) : TCalls Try.prog 66 [.str t, .int .i64 k] σ K := by
  refine tcalls_walk Try.f66 _ [.tmp 4] Try.func66 rfl rfl rfl mixed (Nat.le_of_ble_eq_true rfl) rfl fun hlen => ?_
  have hll : t.length ≤ 9223372036854775807 := hlen (.str t) (by simp)
  repeat' (first | (simp -dsimp only [↓reduceIte, go_sem]) | (refine arr_intro fun _ => ?_) | (refine later_intro ⟨keeps_nil, ?_⟩) | (refine later_intro ⟨keeps_refl, ?_⟩) | (with_reducible refine keeps_go ?_ ?_; focus (first | (simp [keeps_cons, keeps_none, objs_app, objs_app0]; done) | (simp only [keeps_cons, keeps_none, objs_app0, objs_app, and_true]; first | rfl | exact ⟨rfl, rfl⟩ | exact ⟨rfl, rfl, rfl⟩))) | (with_reducible refine (And.intro (a := keeps _ _ _) ?_ ?_); focus (first | (simp [keeps_cons, keeps_none, objs_app, objs_app0]; done) | (simp only [keeps_cons, keeps_none, objs_app0, objs_app, and_true]; first | rfl | exact ⟨rfl, rfl⟩ | exact ⟨rfl, rfl, rfl⟩))) | (refine both_ways ?_ ?_) | (rw [wrap_i64 (by omega) (by omega)]) | (refine guardV_split (fun h => ?_) (fun h => ?_) <;> (try rw [h]) <;> (try simp at h) <;> (try (exfalso; omega))))
  all_goals first
    | exact bool_end hK (by rw [eq_comm, decide_eq_false_iff_not]; intro hv; have := hv.2; omega)
    | skip
  refine awp_rounds (fun (i : Nat) τ s => s = σ ∧ i ≤ t.length ∧ (∀ (j : Nat) b, j < i → t[j]? = some b → (b.toNat : Int) < k) ∧ τ 0 = .str t ∧ τ 1 = .int .i64 k ∧ τ 5 = .int .i64 i) (fun i => t.length - i) 0 ?_ ?_
  · refine ⟨rfl, by omega, fun j y hj => by omega, ?_, ?_, ?_⟩ <;> (try simp only [go_sem]) <;> rfl
  · rintro i τ s ⟨rfl, hi, hall, t0, t1, t5⟩
    simp -dsimp only [↓reduceIte, go_sem, t0, t1, t5]
    refine arr_intro fun _ => ?_
    simp -dsimp only [↓reduceIte, go_sem, t0, t1, t5]
    refine boolW_split (fun hb => ?_) (fun hb => ?_)
    · have hb : i < t.length := by simp at hb; omega
      obtain ⟨y, hy, hm⟩ := get_of_lt hb
      have hy8 : (y.toNat : Int) < 256 := by have := y.toNat_lt; omega
      repeat' (first | (simp -dsimp only [↓reduceIte, go_sem, t0, t1, t5]) | (refine arr_intro fun _ => ?_) | (refine later_intro ⟨keeps_nil, ?_⟩) | (refine later_intro ⟨keeps_refl, ?_⟩) | (with_reducible refine keeps_go ?_ ?_; focus (first | (simp [keeps_cons, keeps_none, objs_app, objs_app0]; done) | (simp only [keeps_cons, keeps_none, objs_app0, objs_app, and_true]; first | rfl | exact ⟨rfl, rfl⟩ | exact ⟨rfl, rfl, rfl⟩))) | (with_reducible refine (And.intro (a := keeps _ _ _) ?_ ?_); focus (first | (simp [keeps_cons, keeps_none, objs_app, objs_app0]; done) | (simp only [keeps_cons, keeps_none, objs_app0, objs_app, and_true]; first | rfl | exact ⟨rfl, rfl⟩ | exact ⟨rfl, rfl, rfl⟩))) | (refine both_ways ?_ ?_) | (rw [wrap_i64 (by omega) (by omega)]) | (refine guardV_split (fun h => ?_) (fun h => ?_) <;> (try rw [h]) <;> (try simp at h) <;> (try (exfalso; omega))) | (refine nth_get hy ?_))
      · exact bool_end hK (by
          rw [eq_comm, decide_eq_false_iff_not]
          intro hv; have := hv.1 y hm; omega)
      · refine later_intro ⟨i + 1, by omega, rfl, by omega, ?_, ?_, ?_, ?_⟩ <;> (try simp only [go_sem, t0, t1, t5]) <;> (try rfl)
        intro j b hj hb'
        by_cases hji : j < i
        · exact hall j b hji hb'
        · obtain rfl : j = i := by omega
          rw [hy] at hb'; cases hb'; omega
    · have hb : i = t.length := by simp at hb; omega
      have ha : ∀ b ∈ t, (b.toNat : Int) < k := fun b hb2 => by
        obtain ⟨j, hj⟩ := List.mem_iff_getElem?.1 hb2
        exact hall j b (by have := (List.getElem?_eq_some_iff.1 hj).1; omega) hj
      repeat' (first | (simp -dsimp only [↓reduceIte, go_sem, t0, t1, t5]) | (refine arr_intro fun _ => ?_) | (refine later_intro ⟨keeps_nil, ?_⟩) | (refine later_intro ⟨keeps_refl, ?_⟩) | (with_reducible refine keeps_go ?_ ?_; focus (first | (simp [keeps_cons, keeps_none, objs_app, objs_app0]; done) | (simp only [keeps_cons, keeps_none, objs_app0, objs_app, and_true]; first | rfl | exact ⟨rfl, rfl⟩ | exact ⟨rfl, rfl, rfl⟩))) | (with_reducible refine (And.intro (a := keeps _ _ _) ?_ ?_); focus (first | (simp [keeps_cons, keeps_none, objs_app, objs_app0]; done) | (simp only [keeps_cons, keeps_none, objs_app0, objs_app, and_true]; first | rfl | exact ⟨rfl, rfl⟩ | exact ⟨rfl, rfl, rfl⟩))) | (refine both_ways ?_ ?_) | (rw [wrap_i64 (by omega) (by omega)]) | (refine guardV_split (fun h => ?_) (fun h => ?_) <;> (try rw [h]) <;> (try simp at h) <;> (try (exfalso; omega))))
      exact bool_end hK (by rw [eq_comm, decide_eq_true_eq]; exact ⟨ha, by omega, by omega, by omega⟩)

theorem refNums_c {l : List Int} {tk : Tk} {σ : AST} {K : AV → AST → Prop} (hK : K (.bool (decide (NumsOk l))) σ) : TCalls Try.prog 67 [.slice tk (l.map (AV.int .i64))] σ K := by
  refine tcalls_walk Try.f67 _ [.tmp 2] Try.func67 rfl rfl rfl mixed (Nat.le_of_ble_eq_true rfl) rfl fun hlen => ?_
  have hll : l.length ≤ 9223372036854775807 := by simpa [maxL, lenOk] using hlen _ (List.mem_cons_self ..)
  repeat' (first | (simp -dsimp only [↓reduceIte, go_sem]) | (refine arr_intro fun _ => ?_) | (refine later_intro ⟨keeps_nil, ?_⟩) | (refine later_intro ⟨keeps_refl, ?_⟩) | (with_reducible refine keeps_go ?_ ?_; focus (first | (simp [keeps_cons, keeps_none, objs_app, objs_app0]; done) | (simp only [keeps_cons, keeps_none, objs_app0, objs_app, and_true]; first | rfl | exact ⟨rfl, rfl⟩ | exact ⟨rfl, rfl, rfl⟩))) | (with_reducible refine (And.intro (a := keeps _ _ _) ?_ ?_); focus (first | (simp [keeps_cons, keeps_none, objs_app, objs_app0]; done) | (simp only [keeps_cons, keeps_none, objs_app0, objs_app, and_true]; first | rfl | exact ⟨rfl, rfl⟩ | exact ⟨rfl, rfl, rfl⟩))) | (refine both_ways ?_ ?_) | (rw [wrap_i64 (by omega) (by omega)]) | (refine guardV_split (fun h => ?_) (fun h => ?_) <;> (try rw [h]) <;> (try simp at h) <;> (try (exfalso; omega))))
  refine awp_rounds (fun (i : Nat) τ s => s = σ ∧ i ≤ l.length ∧ (∀ (j : Nat) n, j < i → l[j]? = some n → In 0 1099511627776 n ∧ ∀ m, 0 < j → l[j - 1]? = some m → m < n) ∧ τ 0 = .slice tk (l.map (AV.int .i64)) ∧ τ 3 = .int .i64 i) (fun i => l.length - i) 0 ?_ ?_
  · refine ⟨rfl, by omega, fun j y h => by omega, ?_, ?_⟩ <;> (try simp only [go_sem]) <;> rfl
  · rintro i τ s ⟨rfl, hi, hall, t0, t3⟩
    simp -dsimp only [↓reduceIte, go_sem, t0, t3]
    refine arr_intro fun _ => ?_
    simp -dsimp only [↓reduceIte, go_sem, t0, t3]
    refine boolW_split (fun hb => ?_) (fun hb => ?_)
    · have hb : i < l.length := by simp at hb; omega
      obtain ⟨y, hy, hm⟩ := get_of_lt hb
      have step : In 0 1099511627776 y → (∀ m, 0 < i → l[i - 1]? = some m → m < y) → ∀ (j : Nat) n, j < i + 1 → l[j]? = some n → In 0 1099511627776 n ∧ ∀ m, 0 < j → l[j - 1]? = some m → m < n := fun h1 h2 j n hj hn => by
        by_cases hji : j < i
        · exact hall j n hji hn
        · obtain rfl : j = i := by omega
          rw [hy] at hn; cases hn; exact ⟨h1, h2⟩
      repeat' (first | (simp -dsimp only [↓reduceIte, go_sem, t0, t3]) | (refine arr_intro fun _ => ?_) | (refine later_intro ⟨keeps_nil, ?_⟩) | (refine later_intro ⟨keeps_refl, ?_⟩) | (with_reducible refine keeps_go ?_ ?_; focus (first | (simp [keeps_cons, keeps_none, objs_app, objs_app0]; done) | (simp only [keeps_cons, keeps_none, objs_app0, objs_app, and_true]; first | rfl | exact ⟨rfl, rfl⟩ | exact ⟨rfl, rfl, rfl⟩))) | (with_reducible refine (And.intro (a := keeps _ _ _) ?_ ?_); focus (first | (simp [keeps_cons, keeps_none, objs_app, objs_app0]; done) | (simp only [keeps_cons, keeps_none, objs_app0, objs_app, and_true]; first | rfl | exact ⟨rfl, rfl⟩ | exact ⟨rfl, rfl, rfl⟩))) | (refine both_ways ?_ ?_) | (rw [wrap_i64 (by omega) (by omega)]) | (refine guardV_split (fun h => ?_) (fun h => ?_) <;> (try rw [h]) <;> (try simp at h) <;> (try (exfalso; omega))) | (with_reducible refine awp_drawS (id := 4) [0, 1, 2, 3, 4, 5, 6, 7, 8, 9, 10, 11, 12, 13, 14, 15, 16, 17, 18, 19, 20, 21] (by kernel_rfl) ?_) | (refine nth_get hy ?_) | (refine nth_pred hy (by omega) ?_) | (refine Within_c ?_))
      · refine bool_endD hK ?_
        simp only [Bool.false_eq_true, false_iff]
        intro h; have := (h.1 i y hy).2 _ (by assumption) (get_pred hy (by assumption)); omega
      · refine later_intro ⟨i + 1, by omega, rfl, by omega, step (by assumption) (fun m h0 hm => by rw [get_pred hy h0] at hm; cases hm; omega), ?_, ?_⟩ <;> (try simp only [go_sem, t0, t3]) <;> rfl
      · refine later_intro ⟨i + 1, by omega, rfl, by omega, step (by assumption) (fun m h0 hm => by omega), ?_, ?_⟩ <;> (try simp only [go_sem, t0, t3]) <;> rfl
      · refine bool_endD hK ?_
        simp only [Bool.false_eq_true, false_iff]
        intro h; exact absurd (h.1 i y hy).1 (by assumption)
    · have hb : i = l.length := by simp at hb; omega
      subst hb
      repeat' (first | (simp -dsimp only [↓reduceIte, go_sem, t0, t3]) | (refine arr_intro fun _ => ?_) | (refine later_intro ⟨keeps_nil, ?_⟩) | (refine later_intro ⟨keeps_refl, ?_⟩) | (with_reducible refine keeps_go ?_ ?_; focus (first | (simp [keeps_cons, keeps_none, objs_app, objs_app0]; done) | (simp only [keeps_cons, keeps_none, objs_app0, objs_app, and_true]; first | rfl | exact ⟨rfl, rfl⟩ | exact ⟨rfl, rfl, rfl⟩))) | (with_reducible refine (And.intro (a := keeps _ _ _) ?_ ?_); focus (first | (simp [keeps_cons, keeps_none, objs_app, objs_app0]; done) | (simp only [keeps_cons, keeps_none, objs_app0, objs_app, and_true]; first | rfl | exact ⟨rfl, rfl⟩ | exact ⟨rfl, rfl, rfl⟩))) | (refine both_ways ?_ ?_) | (rw [wrap_i64 (by omega) (by omega)]) | (refine guardV_split (fun h => ?_) (fun h => ?_) <;> (try rw [h]) <;> (try simp at h) <;> (try (exfalso; omega))) | (refine Within_c ?_))
      refine bool_endD hK ?_
      simp only [decide_eq_true_eq]
      exact ⟨fun h => ⟨fun j n hn => hall j n (List.getElem?_eq_some_iff.1 hn).1 hn, h⟩, fun h => h.2⟩

theorem asks_c {a b c : Int} {σ : AST} {K : AV → AST → Prop} (hK : K (.bool (decide (In 1 512 a ∧ In 1 2 b ∧ In 0 7 c))) σ) : TCalls Try.prog 64 [.int .i64 a, .int .i64 b, .int .i64 c] σ K := by
  refine tcalls_walk Try.f64 _ [.tmp 6] Try.func64 rfl rfl rfl mixed (Nat.le_of_ble_eq_true rfl) rfl fun hlen => ?_
  repeat' (first | (simp -dsimp only [↓reduceIte, go_sem]) | (refine arr_intro fun _ => ?_) | (refine later_intro ⟨keeps_nil, ?_⟩) | (refine later_intro ⟨keeps_refl, ?_⟩) | (with_reducible refine keeps_go ?_ ?_; focus (first | (simp [keeps_cons, keeps_none, objs_app, objs_app0]; done) | (simp only [keeps_cons, keeps_none, objs_app0, objs_app, and_true]; first | rfl | exact ⟨rfl, rfl⟩ | exact ⟨rfl, rfl, rfl⟩))) | (with_reducible refine (And.intro (a := keeps _ _ _) ?_ ?_); focus (first | (simp [keeps_cons, keeps_none, objs_app, objs_app0]; done) | (simp only [keeps_cons, keeps_none, objs_app0, objs_app, and_true]; first | rfl | exact ⟨rfl, rfl⟩ | exact ⟨rfl, rfl, rfl⟩))) | (refine both_ways ?_ ?_) | (rw [wrap_i64 (by omega) (by omega)]) | (refine guardV_split (fun h => ?_) (fun h => ?_) <;> (try rw [h]) <;> (try simp at h) <;> (try (exfalso; omega))) | (refine Within_c ?_))
  all_goals exact bool_endD hK (by simp_all)
theorem refSameReply_c {a b : Rep} {ta tb : Tk} {σ : AST} {K : AV → AST → Prop} (hK : K (.bool (decide (a = b))) σ) : TCalls Try.prog 94 [repV ta a, repV tb b] σ K := by
  refine TCalls.drop ?_
  refine tcalls_walk Try.f94 _ [.tmp 4] Try.func94 rfl rfl rfl mixed (Nat.le_of_ble_eq_true rfl) rfl fun hlen => ?_
  repeat' (first | (simp -dsimp only [↓reduceIte, go_sem]) | (refine arr_intro fun _ => ?_) | (refine later_intro ⟨keeps_nil, ?_⟩) | (refine later_intro ⟨keeps_refl, ?_⟩) | (with_reducible refine keeps_go ?_ ?_; focus (first | (simp [keeps_cons, keeps_none, objs_app, objs_app0]; done) | (simp only [keeps_cons, keeps_none, objs_app0, objs_app, and_true]; first | rfl | exact ⟨rfl, rfl⟩ | exact ⟨rfl, rfl, rfl⟩))) | (with_reducible refine (And.intro (a := keeps _ _ _) ?_ ?_); focus (first | (simp [keeps_cons, keeps_none, objs_app, objs_app0]; done) | (simp only [keeps_cons, keeps_none, objs_app0, objs_app, and_true]; first | rfl | exact ⟨rfl, rfl⟩ | exact ⟨rfl, rfl, rfl⟩))) | (refine both_ways ?_ ?_) | (rw [wrap_i64 (by omega) (by omega)]) | (refine guardV_split (fun h => ?_) (fun h => ?_) <;> (try rw [h]) <;> (try simp at h) <;> (try (exfalso; omega))))
  · refine bool_endDX (Ext.app _ _) hK ?_
    simp only [Bool.false_eq_true, false_iff]; rintro rfl; omega
  · have hab : a.pending.length = b.pending.length := by omega
    have hx : Ext σ (σ.app [.cells (repV ta a), .cells (repV tb b)]) := Ext.app _ _
    refine awp_rounds (fun (i : Nat) τ s => s = σ.app [.cells (repV ta a), .cells (repV tb b)] ∧ i ≤ a.pending.length ∧ (∀ (j : Nat) x y, j < i → a.pending[j]? = some x → b.pending[j]? = some y → x = y) ∧ τ 2 = .ptr (some (σ.objs.length, [])) ∧ τ 3 = .ptr (some (σ.objs.length + 1, [])) ∧ τ 5 = .int .i64 i) (fun i => a.pending.length - i) 0 ?_ ?_
    · refine ⟨rfl, by omega, fun j x y h => by omega, ?_, ?_, ?_⟩ <;> (try simp only [go_sem]) <;> rfl
    · rintro i τ s ⟨rfl, hi, hall, t2, t3, t5⟩
      simp -dsimp only [↓reduceIte, go_sem, t2, t3, t5]
      refine arr_intro fun _ => ?_
      have hll : a.pending.length ≤ 9223372036854775807 := by simpa [maxL] using ‹a.pending.length ≤ maxL›
      simp -dsimp only [↓reduceIte, go_sem, t2, t3, t5]
      refine boolW_split (fun hb => ?_) (fun hb => ?_)
      · have hb : i < a.pending.length := by simp at hb; omega
        obtain ⟨x, hax⟩ := get_lt hb
        obtain ⟨y, hby⟩ := get_lt (l := b.pending) (i := i) (by omega)
        repeat' (first | (simp -dsimp only [↓reduceIte, go_sem, t2, t3, t5]) | (refine arr_intro fun _ => ?_) | (refine later_intro ⟨keeps_nil, ?_⟩) | (refine later_intro ⟨keeps_refl, ?_⟩) | (with_reducible refine keeps_go ?_ ?_; focus (first | (simp [keeps_cons, keeps_none, objs_app, objs_app0]; done) | (simp only [keeps_cons, keeps_none, objs_app0, objs_app, and_true]; first | rfl | exact ⟨rfl, rfl⟩ | exact ⟨rfl, rfl, rfl⟩))) | (with_reducible refine (And.intro (a := keeps _ _ _) ?_ ?_); focus (first | (simp [keeps_cons, keeps_none, objs_app, objs_app0]; done) | (simp only [keeps_cons, keeps_none, objs_app0, objs_app, and_true]; first | rfl | exact ⟨rfl, rfl⟩ | exact ⟨rfl, rfl, rfl⟩))) | (refine both_ways ?_ ?_) | (rw [wrap_i64 (by omega) (by omega)]) | (refine guardV_split (fun h => ?_) (fun h => ?_) <;> (try rw [h]) <;> (try simp at h) <;> (try (exfalso; omega))) | (with_reducible refine awp_drawS (id := 6) [0, 1, 2, 3, 4, 5, 6, 7, 8, 9, 10] (by kernel_rfl) ?_) | (refine nth_get hax ?_) | (refine nth_get hby ?_))
        · refine bool_endDX hx hK ?_
          simp only [Bool.false_eq_true, false_iff]; rintro rfl; rw [hax] at hby; cases hby; exact absurd rfl (by assumption)
        · refine later_intro ⟨i + 1, by omega, rfl, by omega, all_next hall hax hby (by assumption), ?_, ?_, ?_⟩ <;> (try simp only [go_sem, t2, t3, t5]) <;> rfl
      · have hb : i = a.pending.length := by simp at hb; omega
        subst hb
        have hp : a.pending = b.pending := ext_to hab hall
        repeat' (first | (simp -dsimp only [↓reduceIte, go_sem, t2, t3, t5]) | (refine arr_intro fun _ => ?_) | (refine later_intro ⟨keeps_nil, ?_⟩) | (refine later_intro ⟨keeps_refl, ?_⟩) | (with_reducible refine keeps_go ?_ ?_; focus (first | (simp [keeps_cons, keeps_none, objs_app, objs_app0]; done) | (simp only [keeps_cons, keeps_none, objs_app0, objs_app, and_true]; first | rfl | exact ⟨rfl, rfl⟩ | exact ⟨rfl, rfl, rfl⟩))) | (with_reducible refine (And.intro (a := keeps _ _ _) ?_ ?_); focus (first | (simp [keeps_cons, keeps_none, objs_app, objs_app0]; done) | (simp only [keeps_cons, keeps_none, objs_app0, objs_app, and_true]; first | rfl | exact ⟨rfl, rfl⟩ | exact ⟨rfl, rfl, rfl⟩))) | (refine both_ways ?_ ?_) | (rw [wrap_i64 (by omega) (by omega)]) | (refine guardV_split (fun h => ?_) (fun h => ?_) <;> (try rw [h]) <;> (try simp at h) <;> (try (exfalso; omega))))
        all_goals (first | exact hK | (exfalso; omega) | (refine bool_endD hK ?_; simp_all [Rep.iff] <;> fail) | (refine bool_endDX (Ext.app _ _) hK ?_; simp_all [Rep.iff] <;> fail) | (refine bool_endDX (Ext.refl _) hK ?_; simp_all [Rep.iff] <;> fail) | (refine bool_endDX hx hK ?_; simp_all [Rep.iff] <;> fail) | (refine bool_endD hK ?_; simp [Rep.iff]; omega) | (refine bool_endDX (Ext.app _ _) hK ?_; simp [Rep.iff]; omega) | (refine bool_endDX (Ext.refl _) hK ?_; simp [Rep.iff]; omega) | (refine bool_endDX hx hK ?_; simp [Rep.iff]; omega) | (refine bool_endD hK ?_; simp_all [Rep.iff]; omega) | (refine bool_endDX (Ext.app _ _) hK ?_; simp_all [Rep.iff]; omega) | (refine bool_endDX (Ext.refl _) hK ?_; simp_all [Rep.iff]; omega) | (refine bool_endDX hx hK ?_; simp_all [Rep.iff]; omega) | (refine bool_endD hK ?_; simp_all [Rep.iff] <;> omega) | (refine bool_endDX (Ext.app _ _) hK ?_; simp_all [Rep.iff] <;> omega) | (refine bool_endDX (Ext.refl _) hK ?_; simp_all [Rep.iff] <;> omega) | (refine bool_endDX hx hK ?_; simp_all [Rep.iff] <;> omega))
  all_goals
    refine bool_endDX (Ext.app _ _) hK ?_
    simp only [Bool.false_eq_true, false_iff]; rintro rfl; simp_all
theorem refSame_c {a b : Msg} {ta ua tb ub : Tk} {σ : AST} {K : AV → AST → Prop} (hK : K (.bool (decide (a = b))) σ) : TCalls Try.prog 62 [msgV ta ua a, msgV tb ub b] σ K := by
  refine TCalls.drop ?_
  refine tcalls_walk Try.f62 _ [.tmp 4] Try.func62 rfl rfl rfl mixed (Nat.le_of_ble_eq_true rfl) rfl fun hlen => ?_
  have hx : Ext σ (σ.app [.cells (msgV ta ua a), .cells (msgV tb ub b)]) := Ext.app _ _
  repeat' (first | (simp -dsimp only [↓reduceIte, go_sem]) | (refine arr_intro fun _ => ?_) | (refine later_intro ⟨keeps_nil, ?_⟩) | (refine later_intro ⟨keeps_refl, ?_⟩) | (with_reducible refine keeps_go ?_ ?_; focus (first | (simp [keeps_cons, keeps_none, objs_app, objs_app0]; done) | (simp only [keeps_cons, keeps_none, objs_app0, objs_app, and_true]; first | rfl | exact ⟨rfl, rfl⟩ | exact ⟨rfl, rfl, rfl⟩))) | (with_reducible refine (And.intro (a := keeps _ _ _) ?_ ?_); focus (first | (simp [keeps_cons, keeps_none, objs_app, objs_app0]; done) | (simp only [keeps_cons, keeps_none, objs_app0, objs_app, and_true]; first | rfl | exact ⟨rfl, rfl⟩ | exact ⟨rfl, rfl, rfl⟩))) | (refine both_ways ?_ ?_) | (rw [wrap_i64 (by omega) (by omega)]) | (refine guardV_split (fun h => ?_) (fun h => ?_) <;> (try rw [h]) <;> (try simp at h) <;> (try (exfalso; omega))) | (refine L01.ints_c ?_) | (refine refSameReply_c ?_))
  all_goals (refine bool_endDX hx hK ?_)
  all_goals (first | (simp_all [Msg.iff] <;> fail) | trace_state)
theorem refReply_c {x : Rep} {tk : Tk} {σ : AST} {K : AV → AST → Prop} (hK : K (.bool (decide x.Ok)) σ) : TCalls Try.prog 65 [repV tk x] σ K := by
  refine TCalls.drop ?_
  refine tcalls_walk Try.f65 _ [.tmp 2] Try.func65 rfl rfl rfl mixed (Nat.le_of_ble_eq_true rfl) rfl fun hlen => ?_
  repeat' (first | (simp -dsimp only [↓reduceIte, go_sem]) | (refine arr_intro fun _ => ?_) | (refine later_intro ⟨keeps_nil, ?_⟩) | (refine later_intro ⟨keeps_refl, ?_⟩) | (with_reducible refine keeps_go ?_ ?_; focus (first | (simp [keeps_cons, keeps_none, objs_app, objs_app0]; done) | (simp only [keeps_cons, keeps_none, objs_app0, objs_app, and_true]; first | rfl | exact ⟨rfl, rfl⟩ | exact ⟨rfl, rfl, rfl⟩))) | (with_reducible refine (And.intro (a := keeps _ _ _) ?_ ?_); focus (first | (simp [keeps_cons, keeps_none, objs_app, objs_app0]; done) | (simp only [keeps_cons, keeps_none, objs_app0, objs_app, and_true]; first | rfl | exact ⟨rfl, rfl⟩ | exact ⟨rfl, rfl, rfl⟩))) | (refine both_ways ?_ ?_) | (rw [wrap_i64 (by omega) (by omega)]) | (refine guardV_split (fun h => ?_) (fun h => ?_) <;> (try rw [h]) <;> (try simp at h) <;> (try (exfalso; omega))))
  have bad : ∀ s, Ext σ s → ¬ x.Ok → Ext σ s ∧ (AV.bool false).noRef = true ∧ K (AV.bool false).strip σ := fun s hx h => bool_endDX hx hK (by simpa using h)
  generalize hO : AObj.cells (repV tk x) = O
  refine awp_rounds (fun (i : Nat) τ s => Ext (σ.app [O]) s ∧ i ≤ x.pending.length ∧ (∀ (j : Nat) p, j < i → x.pending[j]? = some p → p.Ok) ∧ τ 1 = .ptr (some (σ.objs.length, [])) ∧ τ 3 = .int .i64 i) (fun i => x.pending.length - i) 0 ?_ ?_
  · refine ⟨Ext.refl _, by omega, fun j y h => by omega, ?_, ?_⟩ <;> (try simp only [go_sem]) <;> rfl
  · rintro i τ s ⟨hx, hi, hall, t1, t3⟩
    have hxx : Ext σ s := (Ext.app _ _).trans hx
    have hc : ∀ p, cellAt s σ.objs.length p = (repV tk x).at p := fun p => cell_ext0 hx (by rw [← hO]; rfl) p
    simp -dsimp only [↓reduceIte, go_sem, t1, t3, hc]
    refine arr_intro fun _ => ?_
    have hll : x.pending.length ≤ 9223372036854775807 := by simpa [maxL] using ‹x.pending.length ≤ maxL›
    simp -dsimp only [↓reduceIte, go_sem, t1, t3, hc]
    refine boolW_split (fun hb => ?_) (fun hb => ?_)
    · have hb : i < x.pending.length := by simp at hb; omega
      obtain ⟨y, hy, hm⟩ := get_of_lt hb
      repeat' (first | (simp -dsimp only [↓reduceIte, go_sem, t1, t3, hc]) | (refine arr_intro fun _ => ?_) | (refine later_intro ⟨keeps_nil, ?_⟩) | (refine later_intro ⟨keeps_refl, ?_⟩) | (with_reducible refine keeps_go ?_ ?_; focus (first | (simp [keeps_cons, keeps_none, objs_app, objs_app0]; done) | (simp only [keeps_cons, keeps_none, objs_app0, objs_app, and_true]; first | rfl | exact ⟨rfl, rfl⟩ | exact ⟨rfl, rfl, rfl⟩))) | (with_reducible refine (And.intro (a := keeps _ _ _) ?_ ?_); focus (first | (simp [keeps_cons, keeps_none, objs_app, objs_app0]; done) | (simp only [keeps_cons, keeps_none, objs_app0, objs_app, and_true]; first | rfl | exact ⟨rfl, rfl⟩ | exact ⟨rfl, rfl, rfl⟩))) | (refine both_ways ?_ ?_) | (rw [wrap_i64 (by omega) (by omega)]) | (refine guardV_split (fun h => ?_) (fun h => ?_) <;> (try rw [h]) <;> (try simp at h) <;> (try (exfalso; omega))) | (refine nth_get hy ?_) | (refine Within_c ?_) | (refine asks_c ?_))
      all_goals first
        | exact bad _ (hxx.trans (Ext.app _ _)) (fun h => by have := h.1 y hm; simp_all [Pend.Ok])
        | skip
      refine later_intro ⟨i + 1, by omega, hx.trans (Ext.app _ _), by omega, ?_, ?_, ?_⟩ <;> (try simp only [go_sem, t1, t3]) <;> (try rfl)
      intro j p hj hp
      by_cases hji : j < i
      · exact hall j p hji hp
      · obtain rfl : j = i := by omega
        rw [hy] at hp; cases hp; simp_all [Pend.Ok]
    · have hb : i = x.pending.length := by simp at hb; omega
      subst hb
      have ha : ∀ p ∈ x.pending, p.Ok := fun p hp => by
        obtain ⟨j, hj⟩ := List.mem_iff_getElem?.1 hp
        exact hall j p (List.getElem?_eq_some_iff.1 hj).1 hj
      clear hx hO
      have hx := hxx
      repeat' (first | (simp -dsimp only [↓reduceIte, go_sem, t1, t3, hc]) | (refine arr_intro fun _ => ?_) | (refine later_intro ⟨keeps_nil, ?_⟩) | (refine later_intro ⟨keeps_refl, ?_⟩) | (with_reducible refine keeps_go ?_ ?_; focus (first | (simp [keeps_cons, keeps_none, objs_app, objs_app0]; done) | (simp only [keeps_cons, keeps_none, objs_app0, objs_app, and_true]; first | rfl | exact ⟨rfl, rfl⟩ | exact ⟨rfl, rfl, rfl⟩))) | (with_reducible refine (And.intro (a := keeps _ _ _) ?_ ?_); focus (first | (simp [keeps_cons, keeps_none, objs_app, objs_app0]; done) | (simp only [keeps_cons, keeps_none, objs_app0, objs_app, and_true]; first | rfl | exact ⟨rfl, rfl⟩ | exact ⟨rfl, rfl, rfl⟩))) | (refine both_ways ?_ ?_) | (rw [wrap_i64 (by omega) (by omega)]) | (refine guardV_split (fun h => ?_) (fun h => ?_) <;> (try rw [h]) <;> (try simp at h) <;> (try (exfalso; omega))) | (refine Within_c ?_) | (refine refHist_c (by omega) (by omega) ?_))
      all_goals (first | exact hK | (exfalso; omega) | (refine bool_endD hK ?_; simp_all [Rep.Ok, view_last] <;> fail) | (refine bool_endDX (Ext.app _ _) hK ?_; simp_all [Rep.Ok, view_last] <;> fail) | (refine bool_endDX (Ext.refl _) hK ?_; simp_all [Rep.Ok, view_last] <;> fail) | (refine bool_endDX hx hK ?_; simp_all [Rep.Ok, view_last] <;> fail) | (refine bool_endD hK ?_; simp [Rep.Ok, view_last]; omega) | (refine bool_endDX (Ext.app _ _) hK ?_; simp [Rep.Ok, view_last]; omega) | (refine bool_endDX (Ext.refl _) hK ?_; simp [Rep.Ok, view_last]; omega) | (refine bool_endDX hx hK ?_; simp [Rep.Ok, view_last]; omega) | (refine bool_endD hK ?_; simp_all [Rep.Ok, view_last]; omega) | (refine bool_endDX (Ext.app _ _) hK ?_; simp_all [Rep.Ok, view_last]; omega) | (refine bool_endDX (Ext.refl _) hK ?_; simp_all [Rep.Ok, view_last]; omega) | (refine bool_endDX hx hK ?_; simp_all [Rep.Ok, view_last]; omega) | (refine bool_endD hK ?_; simp_all [Rep.Ok, view_last] <;> omega) | (refine bool_endDX (Ext.app _ _) hK ?_; simp_all [Rep.Ok, view_last] <;> omega) | (refine bool_endDX (Ext.refl _) hK ?_; simp_all [Rep.Ok, view_last] <;> omega) | (refine bool_endDX hx hK ?_; simp_all [Rep.Ok, view_last] <;> omega))
end Go.Aff.L10

