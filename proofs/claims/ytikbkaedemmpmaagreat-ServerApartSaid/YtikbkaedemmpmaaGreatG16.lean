import Derived.Test.YtikbkaedemmpmaaGreatG15
import Derived.Test.YtikbkaedemmpmaaGreatG14
import Derived.Test.YtikbkaedemmpmaaGreatG12

set_option linter.unusedSimpArgs false
set_option linter.unusedVariables false

namespace Go.Aff.L10
open Go.Proofs Go.Aff Go.Aff.L01 Classical
set_option maxRecDepth 20000
attribute [-go_sem] cellAt_new
attribute [-simp] List.length_flatMap
attribute [local go_sem] Tryz.underlying40 sizes_blob shapes_blob fits_blob zero_blob zt_blob msgPs_0 msgAt_0 msgSet_0 msgPs_1 msgAt_1 msgSet_1 msgPs_8 msgAt_8 msgSet_8 msgPs_9 msgAt_9 msgSet_9 sizes_msg shapes_msg fits_msg zero_msg zt_msg built_msg Tryz.underlying42
attribute [local go_sem] fits3 fits9 fits31 zt3
attribute [local go_sem] fits28p fits22p fits76 srvPs_2 srvAt_2 Tryz.underlying68 Tryz.underlying48
theorem zero76 : zeroA Tryz.prog 12 48 = .slice .full [] := by kernel_rfl
theorem zt76 : ZeroOf Tryz.prog 48 (.slice .full []) = True := eq_true ⟨_, _, rfl, rfl, rfl, rfl, rfl⟩
attribute [local go_sem] zero76 zt76
noncomputable def foundL (B : List Blob) (c : Int) (l : List Int) : List (Tk × Tk × Msg) := l.filterMap fun n => (bgot B c n).map fun b => (Tk.full, Tk.full, foundM b)
noncomputable def noneL (B : List Blob) (c : Int) (l : List Int) : List Int := l.filter fun n => (bgot B c n).isNone
noncomputable def lettersM (B : List Blob) (m : Msg) : List Msg := (foundL B m.client m.nums).map (·.2.2) ++ if noneL B m.client m.nums = [] then [] else [noneM m.client (noneL B m.client m.nums)]
theorem foundL_next {B : List Blob} {c : Int} {l : List Int} {i : Nat} {n : Int} (h : l[i]? = some n) : foundL B c (l.take (i + 1)) = foundL B c (l.take i) ++ (match bgot B c n with | some b => [(Tk.full, Tk.full, foundM b)] | none => []) ∧
    noneL B c (l.take (i + 1)) = noneL B c (l.take i) ++ (match bgot B c n with | some b => [] | none => [n]) := by
  have hi := (List.getElem?_eq_some_iff.1 h).1
  have e : l.take (i + 1) = l.take i ++ [n] := by rw [← (List.getElem?_eq_some_iff.1 h).2]; exact (List.take_append_getElem hi).symm
  rw [e]
  unfold foundL noneL
  rw [List.filterMap_append, List.filter_append]
  cases hb : bgot B c n <;> simp [hb]
theorem foundL_len {B : List Blob} {c : Int} {l : List Int} : (foundL B c l).length ≤ l.length ∧ (noneL B c l).length ≤ l.length := ⟨List.length_filterMap_le .., List.length_filter_le ..⟩
theorem getm_c {σ0 s : AST} {n0 : Int} {j mi q r : Nat} {B : List Blob} {m : Msg} {t u : Tk} {K : AV → AST → Prop} (hS : SF σ0 s j mi B [(q, srvO n0 r j)]) (hl : m.nums.length ≤ 900)
    (hK : ∀ s' tk L', L'.map (·.2.2) = lettersM B m → Ext s s' → K (.slice tk ((sentL L').map AV.str)) s') : TCalls Tryz.prog 33 [.ptr (some (q, [])), msgV t u m] s K := by
  have hb1 := (hS.box (.cells (.ptr (some (q, []))))).box (.cells (msgV t u m))
  have hS2 : SF σ0 (s.app [.cells (.ptr (some (q, []))), .cells (msgV t u m)]) j mi B [(q, srvO n0 r j), (s.objs.length, .cells (.ptr (some (q, [])))), (s.objs.length + 1, .cells (msgV t u m))] := by
    have e : (s.app [.cells (.ptr (some (q, [])))]).app [.cells (msgV t u m)] = s.app [.cells (.ptr (some (q, []))), .cells (msgV t u m)] := by simp [AST.app]
    have e2 : (s.app [AObj.cells (.ptr (some (q, [])))]).objs.length = s.objs.length + 1 := by simp [AST.app]
    rw [e, e2] at hb1
    refine ⟨hb1.x, hb1.jn, hb1.mn, hb1.jm, hb1.o, hb1.om, fun x hx => hb1.f x ?_⟩
    simp only [List.mem_cons, List.not_mem_nil, or_false] at hx ⊢
    rcases hx with h | h | h
    · exact .inr (.inr h)
    · exact .inr (.inl h)
    · exact .inl h
  generalize hsa : s.app [.cells (.ptr (some (q, []))), .cells (msgV t u m)] = sa at hS2
  have hxa : Ext s sa := by rw [← hsa]; exact Ext.app _ _
  have hla : sa.objs.length = s.objs.length + 2 := by rw [← hsa]; simp [AST.app]
  refine tcalls_walk Tryz.f33 _ [.tmp 4] Tryz.func33 rfl rfl rfl mixed (Nat.le_of_ble_eq_true rfl) rfl fun hlen => ?_
  repeat' (simp -dsimp only [↓reduceIte, go_sem])
  refine ⟨fun x hx => ?_, ?_⟩
  · simp only [List.mem_cons, List.not_mem_nil, or_false] at hx
    rcases hx with rfl | rfl | rfl | rfl <;> simp only [go_sem] <;> rfl
  refine later_intro ?_
  repeat' (first | (simp -dsimp only [↓reduceIte, go_sem]) | (refine arr_intro fun _ => ?_) | fail)
  refine awp_rounds (fun (i : Nat) τ s' => i ≤ m.nums.length ∧ GS sa s' (s.objs.length + 3) (s.objs.length + 2) m.client (noneL B m.client (m.nums.take i)) (foundL B m.client (m.nums.take i)) ∧ τ 5 = .ptr (some (s.objs.length + 2, [])) ∧ τ 6 = .ptr (some (s.objs.length + 3, [])) ∧
    τ 7 = .fn (.func 74) [] [.ptr (some (s.objs.length, [])), .ptr (some (s.objs.length + 1, [])), .ptr (some (s.objs.length + 3, [])), .ptr (some (s.objs.length + 2, []))] ∧ τ 15 = .slice u (m.nums.map (AV.int .i64)) ∧ τ 16 = .int .i64 m.nums.length ∧ τ 17 = .int .i64 i) (fun i => m.nums.length - i) 0 ?_ ?_
  · refine ⟨by omega, ?_, ?_, ?_, ?_, ?_, ?_, ?_⟩ <;> (try simp only [go_sem]) <;> (try rfl)
    have e1 : s.app [.cells (.ptr (some (q, []))), .cells (msgV t u m), .cells (.slice .full []), .cells (msgV .full .full (noneM m.client []))] = sa.app [.cells (.slice .full []), .cells (msgV .full .full (noneM m.client []))] := by rw [← hsa]; simp [AST.app]
    have o4 : (sa.app [.cells (.slice .full []), .cells (msgV .full .full (noneM m.client []))]).objs[s.objs.length + 2]? = some (.cells (.slice .full [])) := by rw [← hla, objs_app0]; rfl
    have o3 : (sa.app [.cells (.slice .full []), .cells (msgV .full .full (noneM m.client []))]).objs[s.objs.length + 3]? = some (.cells (msgV .full .full (noneM m.client []))) := by
      have : s.objs.length + 3 = sa.objs.length + 1 := by omega
      rw [this, objs_app]; rfl
    have key : GS sa (sa.app [.cells (.slice .full []), .cells (msgV .full .full (noneM m.client []))]) (s.objs.length + 3) (s.objs.length + 2) m.client [] [] :=
      ⟨Ext.app _ _, by omega, by omega, by omega, .full, .full, o3, o4, .inl rfl, .inl rfl, apart_full, trivial, trivial⟩
    rw [← e1] at key
    exact key
  · rintro i τ s' ⟨hi, hG, t5, t6, t7, t15, t16, t17⟩
    have hfl := foundL_len (B := B) (c := m.client) (l := m.nums.take i)
    rw [List.length_take] at hfl
    by_cases hlt : i < m.nums.length
    · have hlt1 : (i : Int) < m.nums.length := by omega
      obtain ⟨n, hn⟩ : ∃ n, m.nums[i]? = some n := ⟨_, List.getElem?_eq_getElem hlt⟩
      have hnx := foundL_next (B := B) (c := m.client) hn
      have w1 : IntKind.i64.wrap ((i : Int) + 1) = (i : Int) + 1 := wrap_i64 (by omega) (by omega)
      repeat' (first | (simp -dsimp only [↓reduceIte, go_sem, t5, t6, t7, t15, t16, t17, hlt1]) | (refine nth_get hn ?_) | fail)
      refine get1_c hS2 hG (by omega) (by omega) (fun s2 hb h2 => ?_) (fun s2 b hb h2 => ?_)
      all_goals
        simp only [hb, List.append_nil] at hnx
        rw [← hnx.1, ← hnx.2] at h2
        repeat' (simp -dsimp only [↓reduceIte, go_sem, t5, t6, t7, t15, t16, t17, w1])
        refine later_intro ⟨i + 1, by omega, by omega, h2, ?_, ?_, ?_, ?_, ?_, ?_⟩ <;> (try simp only [go_sem, t5, t6, t7, t15, t16, t17]) <;> (try rfl)
    · obtain rfl : i = m.nums.length := by omega
      have hlt1 : ¬ ((m.nums.length : Nat) : Int) < m.nums.length := by omega
      rw [List.take_length] at hG
      obtain ⟨tn, tf, p3, p4, z1, z2, ap, a1, a2⟩ := hG.o
      have q3 := cellAt_known p3
      have q4 := cellAt_known p4
      have hl4 := cell_ltB p4
      have hfl := foundL_len (B := B) (c := m.client) (l := m.nums)
      have hd : (noneM m.client (noneL B m.client m.nums)).nums = noneL B m.client m.nums := rfl
      by_cases hn0 : noneL B m.client m.nums = []
      · have hn1 : ¬ ((noneL B m.client m.nums).length : Int) > 0 := by rw [hn0]; simp
        repeat' (first | (simp -dsimp only [↓reduceIte, go_sem, t5, t6, t7, t15, t16, t17, hlt1, q3, q4, hd, hn1]) | (refine arr_intro fun _ => ?_) | ((refine send_c (by omega) fun s4 t4 hx4 => ?_)) | fail)
        exact hK _ _ _ (by unfold lettersM; rw [if_pos hn0]; simp) (hxa.trans (hG.x.trans hx4))
      · have hn1 : ((noneL B m.client m.nums).length : Int) > 0 := by have := List.length_pos_iff.2 hn0; omega
        have g3 : ∀ n, (growS s' tf n 275).objs[s.objs.length + 2]? = some (.cells (.slice tf ((foundL B m.client m.nums).map msgX))) := fun n => by rw [growS_objs]; exact p4
        have g4 := fun n => cellAt_known (g3 n)
        have g5 : ∀ n v p, cellAt ((growS s' tf n 275).set (s.objs.length + 2) (.cells v)) (s.objs.length + 2) p = v.at p := fun n v p => cellAt_known (objs_setSZ (by rw [growS_objs]; exact hl4)) p
        repeat' (first | (simp -dsimp only [↓reduceIte, go_sem, t5, t6, t7, t15, t16, t17, hlt1, q3, q4, hd, hn1, g3, g4, g5]) | (refine arr_intro fun _ => ?_) | (refine build_slice E76 rfl (by decide) (by intro v hv; simp at hv; subst hv; simp [go_sem]) ?_) | (refine append_msg a2 (Nat.le_trans hfl.1 (Nat.le_trans hl (by decide))) ?_) | fail)
        refine send_c (L := foundL B m.client m.nums ++ [(Tk.full, tn, noneM m.client (noneL B m.client m.nums))]) (by simp; omega) fun s5 t5 hx5 => ?_
        repeat' (simp -dsimp only [↓reduceIte, go_sem])
        exact hK _ _ _ (by unfold lettersM; rw [if_neg hn0]; simp) (hxa.trans (((hG.x.grow z2).set hG.n4).trans hx5))
attribute [local go_sem] srvPs_0 srvAt_0 Tryz.underlying23
section
variable {σ0 s : AST} {n0 : Int} {j mi q r : Nat} {B : List Blob} {F : List (Nat × AObj)} {c : Int} {b : List UInt8} {K : AV → AST → Prop}
theorem on_no (hS : SF σ0 s j mi B ((q, srvO n0 r j) :: F)) (hc0 : ¬ c < 0) (hc3 : ¬ c ≥ n0) (he : (getR b).2 = 0) (hm : mineB c (getR b).1 = false) (hK : ∀ s', Ext s s' → K (.slice .full []) s') : TCalls Tryz.prog 12 [.ptr (some (q, [])), .int .i64 c, .str b] s K := by
  have oq := (hS.f _ (List.mem_cons_self ..)).2.2
  dsimp only at oq
  have cq := cellAt_known oq
  refine tcalls_walk Tryz.f12 _ [.tmp 6] Tryz.func12 rfl rfl rfl mixed (Nat.le_of_ble_eq_true rfl) rfl fun hlen => ?_
  repeat' (simp -dsimp only [↓reduceIte, go_sem, cq, hc0, hc3, decide_false])
  refine get_c fun t u => ?_
  repeat' (first | (simp -dsimp only [↓reduceIte, go_sem, he, hm]) | ((refine mine_c ?_)) | fail)
  exact hK _ (Ext.app _ _)
theorem on_get (hS : SF σ0 s j mi B ((q, srvO n0 r j) :: F)) (hc0 : ¬ c < 0) (hc3 : ¬ c ≥ n0) (he : (getR b).2 = 0) (hm : mineB c (getR b).1 = true) (hk : (getR b).1.kind = 5) (hl : (getR b).1.nums.length ≤ 900)
    (hK : ∀ s' tk L', L'.map (·.2.2) = lettersM B (getR b).1 → Ext s s' → K (.slice tk ((sentL L').map AV.str)) s') : TCalls Tryz.prog 12 [.ptr (some (q, [])), .int .i64 c, .str b] s K := by
  have oq := (hS.f _ (List.mem_cons_self ..)).2.2
  dsimp only at oq
  have cq := cellAt_known oq
  refine tcalls_walk Tryz.f12 _ [.tmp 6] Tryz.func12 rfl rfl rfl mixed (Nat.le_of_ble_eq_true rfl) rfl fun hlen => ?_
  repeat' (simp -dsimp only [↓reduceIte, go_sem, cq, hc0, hc3, decide_false])
  refine get_c fun t u => ?_
  generalize getR b = R at *
  repeat' (first | (simp -dsimp only [↓reduceIte, go_sem, he, hm]) | ((refine mine_c ?_)) | fail)
  refine ⟨fun x hx => ?_, later_intro ?_⟩
  · simp only [List.mem_cons, List.not_mem_nil, or_false] at hx
    rcases hx with rfl
    simp only [go_sem] <;> rfl
  repeat' (simp -dsimp only [↓reduceIte, go_sem, hk])
  refine getm_c ((hS.ext (Ext.app s _)).sub (G := [(q, srvO n0 r j)]) (fun x hx => by simp at hx; simp [hx])) hl fun s3 tk L' hL hx => ?_
  repeat' (simp -dsimp only [↓reduceIte, go_sem])
  exact hK _ _ _ hL ((Ext.app _ _).trans hx)
theorem on_put (hS : SF σ0 s j mi B ((q, srvO n0 r j) :: F)) (hB : BOk B) (hc0 : ¬ c < 0) (hc3 : ¬ c ≥ n0) (he : (getR b).2 = 0) (hm : mineB c (getR b).1 = true) (hk : (getR b).1.kind = 4)
    (hK : ∀ s', SF σ0 s' j mi (bput B (getR b).1.blob).1 ((q, srvO n0 r j) :: F) → K (.slice .full []) s') : TCalls Tryz.prog 12 [.ptr (some (q, [])), .int .i64 c, .str b] s K := by
  have oq := (hS.f _ (List.mem_cons_self ..)).2.2
  dsimp only at oq
  have cq := cellAt_known oq
  refine tcalls_walk Tryz.f12 _ [.tmp 6] Tryz.func12 rfl rfl rfl mixed (Nat.le_of_ble_eq_true rfl) rfl fun hlen => ?_
  repeat' (simp -dsimp only [↓reduceIte, go_sem, cq, hc0, hc3, decide_false])
  refine get_c fun t u => ?_
  generalize getR b = R at *
  repeat' (first | (simp -dsimp only [↓reduceIte, go_sem, he, hm]) | ((refine mine_c ?_)) | fail)
  refine ⟨fun x hx => ?_, later_intro ?_⟩
  · simp only [List.mem_cons, List.not_mem_nil, or_false] at hx
    rcases hx with rfl
    simp only [go_sem] <;> rfl
  have hS1 := hS.ext (Ext.app s [.cells (msgV t u R.1)])
  have oq1 := (hS1.f _ (List.mem_cons_self ..)).2.2
  dsimp only at oq1
  have cq1 := cellAt_known oq1
  repeat' (first | (simp -dsimp only [↓reduceIte, go_sem, hk, cq1]) | (with_reducible refine awp_drawT (id := 16) (.op 0 2 (.op 1 2 (.op 2 2 (.op 3 2 (.op 4 2 (.op 5 2 (.op 6 1 .nil))))))) (by kernel_rfl) ?_) | fail)
  refine sput_c hS1 hB fun s3 h3 => ?_
  repeat' (first | (simp -dsimp only [↓reduceIte, go_sem]) | (refine later_intro ⟨keeps_nil, ?_⟩) | fail)
  exact hK _ h3
end
attribute [local go_sem] Tryz.underlying9 Tryz.underlying74 blobPs_0 blobAt_0 blobPs_1 blobAt_1 blobPs_2 blobAt_2 Tryz.underlying39 fits74b rstPs_0 rstAt_0 rstSet_0 Tryz.underlying76
attribute [local go_sem] bin_blob_eql
theorem E43 : ElemT Tryz.prog 74 39 35 64 := ⟨rfl, by kernel_rfl, by kernel_rfl, ⟨_, of_eq_true zt_blob⟩, by decide⟩
theorem size_blobs {l : List Blob} : ∀ v ∈ l.map blobV, v.size = 35 := by
  intro v hv; obtain ⟨x, _, rfl⟩ := List.mem_map.1 hv; simp only [AV.size, sizes_blob]
theorem append_blobs {a b : List Blob} {tk tk2 : Tk} {σ : AST} {K : AV → AST → Prop} (hca : canApp σ tk a.length 35) (hl : a.length + b.length ≤ 5000) (hK : K (.slice (growT σ tk) ((a ++ b).map blobV)) (growS σ tk (a.length + b.length) 35)) :
    appendW Tryz.prog ⟨[74, 74]⟩ (.slice tk (a.map blobV)) (.slice tk2 (b.map blobV)) σ K := by
  refine append_slice E43 rfl (by rw [List.length_map]; exact hca) size_blobs size_blobs (by simp; omega) (by simp [maxL]; omega) ?_
  simpa using hK
theorem append_bnone {b : List Blob} {tk2 : Tk} {σ : AST} {K : AV → AST → Prop} (hl : b.length ≤ 5000) (hK : K (.slice (growT σ .full) (b.map blobV)) (growS σ .full b.length 35)) :
    appendW Tryz.prog ⟨[74, 74]⟩ (.slice .full []) (.slice tk2 (b.map blobV)) σ K := append_blobs (a := []) trivial (by simpa using hl) (by simpa using hK)
theorem append_blob {a : List Blob} {x : Blob} {tk tk2 : Tk} {σ : AST} {K : AV → AST → Prop} (hca : canApp σ tk a.length 35) (hl : a.length ≤ 4999) (hK : K (.slice (growT σ tk) ((a ++ [x]).map blobV)) (growS σ tk (a.length + 1) 35)) :
    appendW Tryz.prog ⟨[74, 74]⟩ (.slice tk (a.map blobV)) (.slice tk2 [blobV x]) σ K := append_blobs (b := [x]) hca (by simp; omega) (by simpa using hK)
theorem hi_blobs {l : List Blob} {tk : Tk} {i : Nat} {KV : AV → Prop} (hi : i ≤ l.length) (h : ∀ t, KV (.slice t ((l.take i).map blobV))) : sliceW Tryz.prog 74 (.slice tk (l.map blobV)) none (some (.int .i64 i)) none KV :=
  slice_hi E43 ⟨_, Tryz.underlying39⟩ size_blobs (by simpa using hi) fun t => by rw [← List.map_take]; exact h t
theorem lo_blobs {l : List Blob} {tk : Tk} {i : Nat} {KV : AV → Prop} (hi : i + 1 ≤ l.length) (h : ∀ t, KV (.slice t ((l.drop (i + 1)).map blobV))) : sliceW Tryz.prog 74 (.slice tk (l.map blobV)) (some (.int .i64 ((i : Int) + 1))) none none KV := by
  have := slice_lo (P := Tryz.prog) (h := i + 1) (tk := tk) (q := .i64) (KV := KV) E43 ⟨_, Tryz.underlying39⟩ (size_blobs (l := l)) (by simpa using hi) fun t => by rw [← List.map_drop]; exact h t
  simpa using this
structure RB (σ0 s : AST) (k : Nat) (B : List Blob) (F : List (Nat × AObj)) : Prop where
  x : Ext σ0 s
  kn : σ0.objs.length ≤ k
  o : ∃ tk, s.objs[k]? = some (.cells (.agg (rstPs tk ⟨B⟩)))
  f : ∀ x ∈ F, x.1 ≠ k ∧ s.objs[x.1]? = some x.2
section
variable {σ0 s s2 : AST} {k : Nat} {B : List Blob} {F : List (Nat × AObj)} {K : AV → AST → Prop}
theorem RB.ext (h : RB σ0 s k B F) (e : Ext s s2) : RB σ0 s2 k B F := by
  obtain ⟨tk, o⟩ := h.o
  exact ⟨h.x.trans e, h.kn, ⟨tk, ext_knownB e o⟩, fun y hy => ⟨(h.f y hy).1, ext_knownB e (h.f y hy).2⟩⟩
theorem rused_c (h : RB σ0 s k B F) (hB : BOk B) {o : Int} (hK : K (.tuple [.int .i64 (usedN B o : Nat), .int .i64 (usedB B o : Nat)]) s) : TCalls Tryz.prog 84 [.ptr (some (k, [])), .int .i64 o] s K := by
  obtain ⟨tk, ho⟩ := h.o
  have ck := cellAt_known ho
  have hlen := hB.len
  refine tcalls_walk Tryz.f84 _ [.tmp 4, .tmp 5] Tryz.func84 rfl rfl rfl mixed (Nat.le_of_ble_eq_true rfl) rfl fun hlen => ?_
  repeat' (simp -dsimp only [↓reduceIte, go_sem, ck])
  refine awp_rounds (fun (i : Nat) τ s' => s' = s ∧ i ≤ B.length ∧ τ 0 = .ptr (some (k, [])) ∧ τ 1 = .int .i64 o ∧ τ 6 = .int .i64 (usedN (B.take i) o : Nat) ∧ τ 7 = .int .i64 (usedB (B.take i) o : Nat) ∧ τ 8 = .int .i64 i) (fun i => B.length - i) 0 ?_ ?_
  · refine ⟨rfl, by omega, ?_, ?_, ?_, ?_, ?_⟩ <;> (try simp only [go_sem]) <;> (try rfl)
  · rintro i τ s' ⟨rfl, hi, t0, t1, t6, t7, t8⟩
    by_cases hlt : i < B.length
    · have hlt1 : (i : Int) < B.length := by omega
      have hb : B[i]? = some B[i] := List.getElem?_eq_getElem hlt
      have hbr := (hB.rt _ (List.mem_of_getElem? hb)).2.2.2.2
      generalize B[i] = b at hb hbr
      have hn := usedN_le (L := B.take i) (o := o)
      have hbb := usedB_le (L := B.take i) (o := o) fun x hx => hB.rt x (List.mem_of_mem_take hx)
      rw [List.length_take] at hn hbb
      have e : B.take (i + 1) = B.take i ++ [b] := by rw [List.take_add_one, hb]; rfl
      have w1 : IntKind.i64.wrap ((usedN (B.take i) o : Nat) + 1) = ((usedN (B.take i) o + 1 : Nat) : Int) := by rw [wrap_i64 (by omega) (by omega)]; simp
      have w2 : IntKind.i64.wrap ((usedB (B.take i) o : Nat) + (b.cipher.length : Nat)) = ((usedB (B.take i) o + b.cipher.length : Nat) : Int) := by rw [wrap_i64 (by omega) (by omega)]; simp
      by_cases ho : b.owner = o
      · have d1 : usedN (B.take (i + 1)) o = usedN (B.take i) o + 1 := by rw [e, usedN_app]; simp [usedN, ho]
        have d2 : usedB (B.take (i + 1)) o = usedB (B.take i) o + b.cipher.length := by rw [e, usedB_app]; simp [usedB, lenOf, ho]
        have hq : (b.owner == o) = true := by simp [ho]
        repeat' (first | (simp -dsimp only [↓reduceIte, go_sem, ck, t0, t1, t6, t7, t8, hlt1, hq, w1, w2]) | (refine arr_intro fun _ => ?_) | (rw [wrap_i64 (by omega) (by omega)]) | (refine nth_get hb ?_))
        first
          | (refine later_intro ⟨i + 1, by omega, rfl, by omega, ?_, ?_, ?_, ?_, ?_⟩ <;> (try simp only [go_sem, t0, t1, t6, t7, t8, d1, d2]) <;> (try rfl))
          | (refine later_intro ⟨i + 1, by omega, ?_⟩; (try simp only [go_sem, t0, t1, t6, t7, t8, d1, d2]); (repeat' apply And.intro) <;> first | rfl | omega | assumption)
      · have d1 : usedN (B.take (i + 1)) o = usedN (B.take i) o := by rw [e, usedN_app]; simp [usedN, ho]
        have d2 : usedB (B.take (i + 1)) o = usedB (B.take i) o := by rw [e, usedB_app]; simp [usedB, lenOf, ho]
        have hq : (b.owner == o) = false := by simp [ho]
        repeat' (first | (simp -dsimp only [↓reduceIte, go_sem, ck, t0, t1, t6, t7, t8, hlt1, hq, w1, w2]) | (refine arr_intro fun _ => ?_) | (rw [wrap_i64 (by omega) (by omega)]) | (refine nth_get hb ?_))
        first
          | (refine later_intro ⟨i + 1, by omega, rfl, by omega, ?_, ?_, ?_, ?_, ?_⟩ <;> (try simp only [go_sem, t0, t1, t6, t7, t8, d1, d2]) <;> (try rfl))
          | (refine later_intro ⟨i + 1, by omega, ?_⟩; (try simp only [go_sem, t0, t1, t6, t7, t8, d1, d2]); (repeat' apply And.intro) <;> first | rfl | omega | assumption)
    · obtain rfl : i = B.length := by omega
      have hlt1 : ¬ ((B.length : Nat) : Int) < B.length := by omega
      rw [List.take_length] at t6 t7
      repeat' (first | (simp -dsimp only [↓reduceIte, go_sem, ck, t0, t1, t6, t7, t8, hlt1]) | (refine arr_intro fun _ => ?_))
      exact hK
noncomputable def batI (B : List Blob) (o n : Int) : Int := match bfind B o n with
  | some i => i
  | none => -1
theorem find_first {B : List Blob} {o n : Int} {i : Nat} {b : Blob} (hb : B[i]? = some b) (h1 : isB o n b = true) (h0 : ∀ x ∈ B.take i, isB o n x = false) : bfind B o n = some i := by
  unfold bfind
  rw [List.findIdx?_eq_some_iff_getElem]
  have hi := (List.getElem?_eq_some_iff.1 hb).1
  have he := (List.getElem?_eq_some_iff.1 hb).2
  refine ⟨hi, by rw [he]; exact h1, fun j hj => ?_⟩
  have : B[j] ∈ B.take i := List.mem_of_getElem? (i := j) (by rw [List.getElem?_take, if_pos hj]; exact List.getElem?_eq_getElem (by omega))
  simp [h0 _ this]
theorem rat_c (h : RB σ0 s k B F) (hB : BOk B) {o n : Int} (hK : K (.int .i64 (batI B o n)) s) : TCalls Tryz.prog 83 [.ptr (some (k, [])), .int .i64 o, .int .i64 n] s K := by
  obtain ⟨tk, ho⟩ := h.o
  have ck := cellAt_known ho
  have hlen := hB.len
  refine tcalls_walk Tryz.f83 _ [.tmp 6] Tryz.func83 rfl rfl rfl mixed (Nat.le_of_ble_eq_true rfl) rfl fun hlen => ?_
  repeat' (simp -dsimp only [↓reduceIte, go_sem, ck])
  refine awp_rounds (fun (i : Nat) τ s' => s' = s ∧ i ≤ B.length ∧ (∀ x ∈ B.take i, isB o n x = false) ∧ τ 0 = .ptr (some (k, [])) ∧ τ 1 = .int .i64 o ∧ τ 2 = .int .i64 n ∧ τ 7 = .int .i64 i) (fun i => B.length - i) 0 ?_ ?_
  · refine ⟨rfl, by omega, by simp, ?_, ?_, ?_, ?_⟩ <;> (try simp only [go_sem]) <;> (try rfl)
  · rintro i τ s' ⟨rfl, hi, h0, t0, t1, t2, t7⟩
    by_cases hlt : i < B.length
    · have hlt1 : (i : Int) < B.length := by omega
      have hb : B[i]? = some B[i] := List.getElem?_eq_getElem hlt
      generalize B[i] = b at hb
      have e : B.take (i + 1) = B.take i ++ [b] := by rw [List.take_add_one, hb]; rfl
      by_cases hq : b.owner = o ∧ b.num = n
      · have hf := find_first hb (by simp [isB, hq]) h0
        have hat : batI B o n = i := by unfold batI; rw [hf]
        rw [hat] at hK
        have q1 : (b.owner == o) = true := by simp [hq.1]
        have q2 : (b.num == n) = true := by simp [hq.2]
        repeat' (first | (simp -dsimp only [↓reduceIte, go_sem, ck, t0, t1, t2, t7, hlt1, q1, q2]) | (refine arr_intro fun _ => ?_) | (refine nth_get hb ?_))
        exact hK
      · have hf0 : ∀ x ∈ B.take (i + 1), isB o n x = false := fun x hx => by
          rw [e] at hx
          rcases List.mem_append.1 hx with hx | hx
          · exact h0 x hx
          · simp at hx; subst hx; simp only [isB, decide_eq_false_iff_not]; exact hq
        by_cases hq1 : b.owner = o
        · have q1 : (b.owner == o) = true := by simp [hq1]
          have q2 : (b.num == n) = false := by simp; exact fun e => hq ⟨hq1, e⟩
          repeat' (first | (simp -dsimp only [↓reduceIte, go_sem, ck, t0, t1, t2, t7, hlt1, q1, q2]) | (refine arr_intro fun _ => ?_) | (rw [wrap_i64 (by omega) (by omega)]) | (refine nth_get hb ?_))
          first
            | (refine later_intro ⟨i + 1, by omega, rfl, by omega, hf0, ?_, ?_, ?_, ?_⟩ <;> (try simp only [go_sem, t0, t1, t2, t7]) <;> (try rfl))
            | (refine later_intro ⟨i + 1, by omega, ?_⟩; (try simp only [go_sem, t0, t1, t2, t7]); (repeat' apply And.intro) <;> first | rfl | omega | assumption)
        · have q1 : (b.owner == o) = false := by simp [hq1]
          repeat' (first | (simp -dsimp only [↓reduceIte, go_sem, ck, t0, t1, t2, t7, hlt1, q1]) | (refine arr_intro fun _ => ?_) | (rw [wrap_i64 (by omega) (by omega)]) | (refine nth_get hb ?_))
          first
            | (refine later_intro ⟨i + 1, by omega, rfl, by omega, hf0, ?_, ?_, ?_, ?_⟩ <;> (try simp only [go_sem, t0, t1, t2, t7]) <;> (try rfl))
            | (refine later_intro ⟨i + 1, by omega, ?_⟩; (try simp only [go_sem, t0, t1, t2, t7]); (repeat' apply And.intro) <;> first | rfl | omega | assumption)
    · obtain rfl : i = B.length := by omega
      have hlt1 : ¬ ((B.length : Nat) : Int) < B.length := by omega
      rw [List.take_length] at h0
      have hat : batI B o n = -1 := by
        unfold batI
        have : bfind B o n = none := by unfold bfind; rw [List.findIdx?_eq_none_iff]; exact h0
        rw [this]
      rw [hat] at hK
      repeat' (first | (simp -dsimp only [↓reduceIte, go_sem, ck, t0, t1, t2, t7, hlt1]) | (refine arr_intro fun _ => ?_))
      exact hK
end
theorem growS_objsB {σ : AST} {tk : Tk} {n es : Nat} : (growS σ tk n es).objs = σ.objs := by cases tk <;> rfl
theorem objs_growSB {σ : AST} {tk : Tk} {n es k : Nat} : (growS σ tk n es).objs[k]? = σ.objs[k]? := by rw [growS_objsB]
section
variable {σ0 s s2 : AST} {k : Nat} {B : List Blob} {F : List (Nat × AObj)} {K : AV → AST → Prop}
theorem RB.store (h : RB σ0 s k B F) {n : Nat} {t : Tk} {B' : List Blob} : RB σ0 ((growS s .full n 35).set k (.cells (.agg (rstPs t ⟨B'⟩)))) k B' F := by
  obtain ⟨tk, ho⟩ := h.o
  exact ⟨(h.x.grow (.inl rfl)).set h.kn, h.kn, ⟨_, objs_setSB (by rw [growS_objsB]; exact cell_ltB ho)⟩, fun y hy => ⟨(h.f y hy).1, by rw [objs_setNB (Ne.symm (h.f y hy).1), growS_objsB]; exact (h.f y hy).2⟩⟩
theorem rput_c (h : RB σ0 s k B F) (hB : BOk B) {b : Blob} (hK : ∀ s', RB σ0 s' k (bput B b).1 F → K (.int .i64 (bput B b).2) s') : TCalls Tryz.prog 40 [.ptr (some (k, [])), .agg (blobPs b)] s K := by
  have hA := fun l => h.ext (Ext.app s l)
  obtain ⟨tk, ho⟩ := h.o
  have oA := fun l => objs_known_app ho l
  have cA := fun l => cellAt_known (oA l)
  have hlen := hB.len
  have hkl := cell_ltB ho
  have hbl : b.cipher.length ≤ maxL → b.cipher.length ≤ 9223372036854775807 := id
  unfold bput at hK
  by_cases hr : b.Rt
  · rw [if_neg (fun hh => hh hr)] at hK
    obtain ⟨r1, r2, r3, r4, r5⟩ := hr
    have g1 : ¬ b.owner < 0 := by omega
    have g2 : ¬ b.owner > 7 := by omega
    have g3 : ¬ b.num < 0 := by omega
    have g4 : ¬ b.num > 1099511627776 := by omega
    have g5 : ¬ (b.cipher.length : Int) > 4096 := by omega
    cases hf : bfind B b.owner b.num with
    | some i =>
      obtain ⟨b', hb', _⟩ := bfind_some hf
      have hat : batI B b.owner b.num = i := by unfold batI; rw [hf]
      simp only [hf, hb', Option.some.injEq] at hK
      by_cases he : b' = b
      · rw [if_pos he] at hK
        subst he
        refine tcalls_walk Tryz.f40 _ [.tmp 4] Tryz.func40 rfl rfl rfl mixed (Nat.le_of_ble_eq_true rfl) rfl fun hlen => ?_
        repeat' (first | (simp -dsimp only [↓reduceIte, go_sem, cA, g1, g2, g3, g4, g5, hat, decide_false]) | (refine arr_intro fun _ => ?_) | (refine guardV_split (fun h => ?_) (fun h => ?_) <;> (try rw [h]) <;> (try simp at h) <;> (try (exfalso; omega))) | ((refine rat_c (hA _) hB ?_)) | (with_reducible refine awp_drawS (id := 4) [0, 1, 2, 3, 4, 5, 6, 7, 8, 9, 10, 11, 12] (by kernel_rfl) ?_) | (refine nth_get hb' ?_))
        exact hK _ (hA _)
      · rw [if_neg he] at hK
        refine tcalls_walk Tryz.f40 _ [.tmp 4] Tryz.func40 rfl rfl rfl mixed (Nat.le_of_ble_eq_true rfl) rfl fun hlen => ?_
        repeat' (first | (simp -dsimp only [↓reduceIte, go_sem, cA, g1, g2, g3, g4, g5, hat, he, decide_false]) | (refine arr_intro fun _ => ?_) | (refine guardV_split (fun h => ?_) (fun h => ?_) <;> (try rw [h]) <;> (try simp at h) <;> (try (exfalso; omega))) | ((refine rat_c (hA _) hB ?_)) | (with_reducible refine awp_drawS (id := 4) [0, 1, 2, 3, 4, 5, 6, 7, 8, 9, 10, 11, 12] (by kernel_rfl) ?_) | (refine nth_get hb' ?_))
        exact hK _ (hA _)
    | none =>
      have hat : batI B b.owner b.num = -1 := by unfold batI; rw [hf]
      simp only [hf] at hK
      have hn := hB.n b.owner
      have hb := hB.b b.owner
      have w1 : IntKind.i64.wrap ((usedN B b.owner : Nat) + 1) = ((usedN B b.owner : Nat) : Int) + 1 := wrap_i64 (by omega) (by omega)
      have w2 : IntKind.i64.wrap ((usedB B b.owner : Nat) + (b.cipher.length : Nat)) = ((usedB B b.owner : Nat) : Int) + (b.cipher.length : Nat) := wrap_i64 (by omega) (by omega)
      by_cases hroom : 256 ≤ usedN B b.owner ∨ 32768 < usedB B b.owner + b.cipher.length
      · rw [if_pos hroom] at hK
        refine tcalls_walk Tryz.f40 _ [.tmp 4] Tryz.func40 rfl rfl rfl mixed (Nat.le_of_ble_eq_true rfl) rfl fun hlen => ?_
        repeat' (first | (simp -dsimp only [↓reduceIte, go_sem, cA, g1, g2, g3, g4, g5, hat, w1, w2, decide_false]) | (refine arr_intro fun _ => ?_) | (refine guardV_split (fun h => ?_) (fun h => ?_) <;> (try rw [h]) <;> (try simp at h) <;> (try (exfalso; omega))) | ((refine rat_c (hA _) hB ?_)) | ((refine rused_c (hA _) hB ?_)) | (with_reducible refine awp_drawS (id := 4) [0, 1, 2, 3, 4, 5, 6, 7, 8, 9, 10, 11, 12] (by kernel_rfl) ?_))
        all_goals first | exact hK _ (hA _) | (exfalso; omega)
      · rw [if_neg hroom] at hK
        refine tcalls_walk Tryz.f40 _ [.tmp 4] Tryz.func40 rfl rfl rfl mixed (Nat.le_of_ble_eq_true rfl) rfl fun hlen => ?_
        repeat' (first | (simp -dsimp only [↓reduceIte, go_sem, cA, oA, g1, g2, g3, g4, g5, hat, w1, w2, decide_false, cellAt_growS, objs_growSB]) | (refine arr_intro fun _ => ?_) | (refine later_intro ⟨keeps_nil, ?_⟩) | (refine later_intro ⟨keeps_refl, ?_⟩) | (refine guardV_split (fun h => ?_) (fun h => ?_) <;> (try rw [h]) <;> (try simp at h) <;> (try (exfalso; omega))) | ((refine rat_c (hA _) hB ?_)) | ((refine rused_c (hA _) hB ?_)) | (with_reducible refine awp_drawS (id := 4) [0, 1, 2, 3, 4, 5, 6, 7, 8, 9, 10, 11, 12] (by kernel_rfl) ?_) | (with_reducible refine awp_drawU (id := 11) (.op 0 0 (.op 1 2 (.op 2 2 (.op 3 2 (.op 4 2 (.op 5 2 (.op 7 0 (.op 8 0 (.op 6 1 (.op 9 1 (.cut (.op 10 2 (.op 11 2 (.op 12 1 .nil)))))))))))))) (by kernel_rfl) ?_) | (refine build_slice E43 rfl (by decide) (by intro v hv; simp at hv; try (subst hv; simp [go_sem])) ?_) | (refine append_bnone (by omega) ?_) | (refine append_blob canGrow (by omega) ?_))
        all_goals first | (exfalso; omega) | exact hK _ (by rw [growFull]; exact (hA _).store)
  · rw [if_pos hr] at hK
    refine tcalls_walk Tryz.f40 _ [.tmp 4] Tryz.func40 rfl rfl rfl mixed (Nat.le_of_ble_eq_true rfl) rfl fun hlen => ?_
    repeat' (first | (simp -dsimp only [↓reduceIte, go_sem, cA]) | (refine arr_intro fun _ => ?_) | (refine guardV_split (fun h => ?_) (fun h => ?_) <;> (try rw [h]) <;> (try simp at h) <;> (try (exfalso; omega))))
    all_goals first | exact hK _ (hA _) | (exfalso; exact hr ⟨by omega, by omega, by omega, by omega, by omega⟩)
theorem take_eraseB {B : List Blob} {i : Nat} : B.take i ++ B.drop (i + 1) = B.eraseIdx i := (List.eraseIdx_eq_take_drop_succ ..).symm
theorem rprune_c (h : RB σ0 s k B F) (hB : BOk B) {o : Int} {tl : Tk} {l : List Int} (hK : ∀ s', RB σ0 s' k (bprune B o l).1 F → K (.int .i64 (bprune B o l).2) s') : TCalls Tryz.prog 42 [.ptr (some (k, [])), .int .i64 o, .slice tl (l.map (AV.int .i64))] s K := by
  refine tcalls_walk Tryz.f42 _ [.tmp 6] Tryz.func42 rfl rfl rfl mixed (Nat.le_of_ble_eq_true rfl) rfl fun hlen => ?_
  have hll : l.length ≤ 9223372036854775807 := by
    have := hlen (.slice tl (l.map (AV.int .i64))) (by simp)
    simp only [lenOk, List.length_map, maxL] at this; exact this
  repeat' (simp -dsimp only [↓reduceIte, go_sem])
  refine awp_rounds (fun (i : Nat) τ s' => i ≤ l.length ∧ RB σ0 s' k (bprune B o (l.take i)).1 F ∧ τ 0 = .ptr (some (k, [])) ∧ τ 1 = .int .i64 o ∧ τ 2 = .slice tl (l.map (AV.int .i64)) ∧ τ 7 = .int .i64 (bprune B o (l.take i)).2 ∧ τ 8 = .int .i64 i) (fun i => l.length - i) 0 ?_ ?_
  · refine ⟨by omega, h, ?_, ?_, ?_, ?_, ?_⟩ <;> (try simp only [go_sem]) <;> (try rfl)
  · rintro i τ s' ⟨hi, hT, t0, t1, t2, t7, t8⟩
    have hBi := hB.prune_take o l i hi
    have hle := prune_le (B := B) (o := o) i hi
    by_cases hlt : i < l.length
    · have hlt1 : (i : Int) < l.length := by omega
      have hp : l[i]? = some l[i] := List.getElem?_eq_getElem hlt
      generalize l[i] = n at hp
      have hnx := bprune_next (B := B) (o := o) hp
      generalize hC : bprune B o (l.take i) = C at *
      obtain ⟨C, c⟩ := C
      simp only at hT hBi hle hnx t7
      obtain ⟨tk, ho⟩ := hT.o
      have cj := cellAt_known ho
      have hlen2 := hBi.len
      have w1 : IntKind.i64.wrap ((c : Int) + 1) = ((c + 1 : Nat) : Int) := by rw [wrap_i64 (by omega) (by omega)]; simp
      cases hf : bfind C o n with
      | some q =>
        obtain ⟨b, hb, _⟩ := bfind_some hf
        have hq := (List.getElem?_eq_some_iff.1 hb).1
        have h1 : bprune1 C o n = (C.eraseIdx q, 1) := by unfold bprune1; rw [hf]
        have hat : batI C o n = q := by unfold batI; rw [hf]
        rw [h1] at hnx
        have w2 : IntKind.i64.wrap ((q : Int) + 1) = (q : Int) + 1 := wrap_i64 (by omega) (by omega)
        repeat' (first | (simp -dsimp only [↓reduceIte, go_sem, cj, ho, t0, t1, t2, t7, t8, hlt1, w1, w2, hat, cellAt_growS, objs_growSB]) | (refine arr_intro fun _ => ?_) | (refine later_intro ⟨keeps_nil, ?_⟩) | (refine later_intro ⟨keeps_refl, ?_⟩) | (rw [wrap_i64 (by omega) (by omega)]) | (refine guardV_split (fun h => ?_) (fun h => ?_) <;> (try rw [h]) <;> (try simp at h) <;> (try (exfalso; omega))) | ((refine rat_c hT hBi ?_)) | (with_reducible refine awp_drawU (id := 7) (.op 0 0 (.op 1 2 (.op 2 2 (.op 3 2 (.op 4 2 (.op 5 2 (.op 6 2 (.op 7 2 (.op 9 0 (.op 10 0 (.op 11 0 (.op 12 0 (.op 13 0 (.op 14 0 (.op 15 0 (.op 8 1 (.op 16 1 (.cut (.op 17 2 (.op 18 2 (.op 19 1 .nil))))))))))))))))))))) (by kernel_rfl) ?_) | (refine nth_get hp ?_) | (refine build_slice E43 rfl (by decide) (by intro v hv; simp at hv) ?_) | (refine hi_blobs (by omega) fun t => ?_) | (refine lo_blobs (by omega) fun t => ?_) | (refine append_bnone (by simp; omega) ?_) | (refine append_blobs canGrow (by simp; omega) ?_))
        refine later_intro ⟨i + 1, by omega, by omega, ?_, ?_, ?_, ?_, ?_, ?_⟩ <;> (try simp only [go_sem, t0, t1, t2, t7, t8, hnx]) <;> (try rfl)
        rw [growFull, ← take_eraseB]
        exact hT.store
      | none =>
        have h1 : bprune1 C o n = (C, 0) := by unfold bprune1; rw [hf]
        have hat : batI C o n = -1 := by unfold batI; rw [hf]
        rw [h1] at hnx
        repeat' (first | (simp -dsimp only [↓reduceIte, go_sem, cj, t0, t1, t2, t7, t8, hlt1, hat]) | (refine arr_intro fun _ => ?_) | (rw [wrap_i64 (by omega) (by omega)]) | ((refine rat_c hT hBi ?_)) | (refine nth_get hp ?_))
        refine later_intro ⟨i + 1, by omega, by omega, ?_, ?_, ?_, ?_, ?_, ?_⟩ <;> (try simp only [go_sem, t0, t1, t2, t7, t8, hnx]) <;> (try rfl)
        exact hT
    · obtain rfl : i = l.length := by omega
      have hlt1 : ¬ ((l.length : Nat) : Int) < l.length := by omega
      rw [List.take_length] at hT t7
      repeat' (first | (simp -dsimp only [↓reduceIte, go_sem, t0, t1, t2, t7, t8, hlt1]) | (refine arr_intro fun _ => ?_))
      exact hK _ hT
end
structure Tw (σ0 s : AST) (j mi k : Nat) (B C : List Blob) (F : List (Nat × AObj)) : Prop where
  p : SF σ0 s j mi B F
  q : RB σ0 s k C F
  kj : k ≠ j
  km : k ≠ mi
section
variable {σ0 s s2 : AST} {j mi k : Nat} {B C : List Blob} {F : List (Nat × AObj)} {K : AV → AST → Prop}
theorem RB.more (h : RB σ0 s k B F) {i : Nat} {o : AObj} (ho : s.objs[i]? = some o) (h1 : i ≠ k) : RB σ0 s k B ((i, o) :: F) :=
  ⟨h.x, h.kn, h.o, fun x hx => by
    rcases List.mem_cons.1 hx with rfl | hx
    · exact ⟨h1, ho⟩
    · exact h.f x hx⟩
theorem RB.less {y : Nat × AObj} (h : RB σ0 s k B (y :: F)) : RB σ0 s k B F := ⟨h.x, h.kn, h.o, fun x hx => h.f x (List.mem_cons_of_mem _ hx)⟩
theorem Tw.ext (h : Tw σ0 s j mi k B C F) (e : Ext s s2) : Tw σ0 s2 j mi k B C F := ⟨h.p.ext e, h.q.ext e, h.kj, h.km⟩
theorem Tw.more (h : Tw σ0 s j mi k B C F) {i : Nat} {o : AObj} (ho : s.objs[i]? = some o) (h1 : i ≠ j) (h2 : i ≠ mi) (h3 : i ≠ k) : Tw σ0 s j mi k B C ((i, o) :: F) := ⟨h.p.more ho h1 h2, h.q.more ho h3, h.kj, h.km⟩
theorem Tw.less {y : Nat × AObj} (h : Tw σ0 s j mi k B C (y :: F)) : Tw σ0 s j mi k B C F := ⟨h.p.less, h.q.less, h.kj, h.km⟩
theorem Tw.lt (h : Tw σ0 s j mi k B C F) : j < s.objs.length ∧ mi < s.objs.length ∧ k < s.objs.length := by
  obtain ⟨t, o⟩ := h.q.o
  exact ⟨h.p.lt.1, h.p.lt.2, cell_ltB o⟩
theorem Tw.box (h : Tw σ0 s j mi k B C F) (o : AObj) : Tw σ0 (s.app [o]) j mi k B C ((s.objs.length, o) :: F) := by
  have hl := h.lt
  exact (h.ext (Ext.app _ _)).more objs_app0 (by omega) (by omega) (by omega)
theorem Tw.sf (h : Tw σ0 s j mi k B C F) : ∃ o, SF σ0 s j mi B ((k, o) :: F) ∧ ∀ s' B', SF σ0 s' j mi B' ((k, o) :: F) → Tw σ0 s' j mi k B' C F := by
  obtain ⟨t, o⟩ := h.q.o
  exact ⟨_, h.p.more o h.kj h.km, fun s' B' h' => ⟨h'.less, ⟨h'.x, h.q.kn, ⟨t, (h'.f _ (List.mem_cons_self ..)).2.2⟩, fun x hx => ⟨(h.q.f x hx).1, (h'.less.f x hx).2.2⟩⟩, h.kj, h.km⟩⟩
theorem Tw.rb (h : Tw σ0 s j mi k B C F) : ∃ o1 o2, RB σ0 s k C ((j, o1) :: (mi, o2) :: F) ∧ ∀ s' C', RB σ0 s' k C' ((j, o1) :: (mi, o2) :: F) → Tw σ0 s' j mi k B C' F := by
  obtain ⟨E, ck, h1, h2, h3, h4⟩ := h.p.om
  refine ⟨_, _, (h.q.more h2 (Ne.symm h.km)).more h.p.o (Ne.symm h.kj), fun s' C' h' => ⟨⟨h'.x, h.p.jn, h.p.mn, h.p.jm, (h'.f _ (List.mem_cons_self ..)).2, ⟨E, ck, h1, (h'.less.f _ (List.mem_cons_self ..)).2, h3, h4⟩, fun x hx => ⟨(h.p.f x hx).1, (h.p.f x hx).2.1, (h'.less.less.f x hx).2⟩⟩, h'.less.less, h.kj, h.km⟩⟩
theorem tput_c (h : Tw σ0 s j mi k B C F) (hB : BOk B) {b : Blob} (hK : ∀ s', Tw σ0 s' j mi k (bput B b).1 C F → K (.int .i64 (bput B b).2) s') : TCalls Tryz.prog 36 [.ptr (some (j, [])), .agg (blobPs b)] s K := by
  obtain ⟨o, h1, h2⟩ := h.sf
  exact sput_c h1 hB fun s' h' => hK s' (h2 s' _ h')
theorem tprune_c (h : Tw σ0 s j mi k B C F) (hB : BOk B) {o : Int} {tl : Tk} {l : List Int} (hK : ∀ s', Tw σ0 s' j mi k (bprune B o l).1 C F → K (.int .i64 (bprune B o l).2) s') : TCalls Tryz.prog 37 [.ptr (some (j, [])), .int .i64 o, .slice tl (l.map (AV.int .i64))] s K := by
  obtain ⟨_, h1, h2⟩ := h.sf
  exact sprune_c h1 hB fun s' h' => hK s' (h2 s' _ h')
theorem trput_c (h : Tw σ0 s j mi k B C F) (hC : BOk C) {b : Blob} (hK : ∀ s', Tw σ0 s' j mi k B (bput C b).1 F → K (.int .i64 (bput C b).2) s') : TCalls Tryz.prog 40 [.ptr (some (k, [])), .agg (blobPs b)] s K := by
  obtain ⟨_, _, h1, h2⟩ := h.rb
  exact rput_c h1 hC fun s' h' => hK s' (h2 s' _ h')
theorem trprune_c (h : Tw σ0 s j mi k B C F) (hC : BOk C) {o : Int} {tl : Tk} {l : List Int} (hK : ∀ s', Tw σ0 s' j mi k B (bprune C o l).1 F → K (.int .i64 (bprune C o l).2) s') : TCalls Tryz.prog 42 [.ptr (some (k, [])), .int .i64 o, .slice tl (l.map (AV.int .i64))] s K := by
  obtain ⟨_, _, h1, h2⟩ := h.rb
  exact rprune_c h1 hC fun s' h' => hK s' (h2 s' _ h')
theorem Tw.setF {i : Nat} {o o' : AObj} (h : Tw σ0 s j mi k B C ((i, o) :: F)) (hF : ∀ x ∈ F, x.1 ≠ i) (hi : σ0.objs.length ≤ i) : Tw σ0 (s.set i o') j mi k B C ((i, o') :: F) := by
  have h1 := h.p.f _ (List.mem_cons_self ..)
  have h2 := h.q.f _ (List.mem_cons_self ..)
  dsimp only at h1 h2
  have hl := cell_ltB h1.2.2
  obtain ⟨E, ck, e1, e2, e3, e4⟩ := h.p.om
  obtain ⟨t, oq⟩ := h.q.o
  refine ⟨⟨h.p.x.set hi, h.p.jn, h.p.mn, h.p.jm, by rw [objs_setNB h1.1]; exact h.p.o, ⟨E, ck, e1, by rw [objs_setNB h1.2.1]; exact e2, e3, e4⟩, fun x hx => ?_⟩, ⟨h.q.x.set hi, h.q.kn, ⟨t, by rw [objs_setNB h2.1]; exact oq⟩, fun x hx => ?_⟩, h.kj, h.km⟩
  · rcases List.mem_cons.1 hx with rfl | hx
    · exact ⟨h1.1, h1.2.1, objs_setSB hl⟩
    · have := h.p.f x (List.mem_cons_of_mem _ hx)
      exact ⟨this.1, this.2.1, by rw [objs_setNB (Ne.symm (hF x hx))]; exact this.2.2⟩
  · rcases List.mem_cons.1 hx with rfl | hx
    · exact ⟨h2.1, objs_setSB hl⟩
    · have := h.q.f x (List.mem_cons_of_mem _ hx)
      exact ⟨this.1, by rw [objs_setNB (Ne.symm (hF x hx))]; exact this.2⟩
end
structure Act13 where
  kind : Int
  client : Int
  s : List UInt8
  m : Msg
def act0 : Act13 := ⟨0, 0, [], msg0⟩
def actPs (t0 t1 : Tk) (x : Act13) : List AV := [.int .i64 x.kind, .int .i64 x.client, .str x.s, .agg (msgPs t0 t1 x.m)]
theorem actPs_0 {t0 t1 : Tk} {x : Act13} : (actPs t0 t1 x)[0]? = some (.int .i64 x.kind) := nr rfl
theorem actAt_0 {t0 t1 : Tk} {x : Act13} {v : AV} : partIs Tryz.prog 44 (actPs t0 t1 x) 0 v = fits Tryz.prog 3 v := by rw [partIs_of (o := 0) (T := 3) (by kernel_rfl)]; simp [actPs, AV.sizes, AV.size]
theorem actSet_0 {t0 t1 : Tk} {x : Act13} {y : Int} : (actPs t0 t1 x).set 0 (.int .i64 y) = actPs t0 t1 { x with kind := y } := nr rfl
theorem actPs_1 {t0 t1 : Tk} {x : Act13} : (actPs t0 t1 x)[1]? = some (.int .i64 x.client) := nr rfl
theorem actAt_1 {t0 t1 : Tk} {x : Act13} {v : AV} : partIs Tryz.prog 44 (actPs t0 t1 x) 1 v = fits Tryz.prog 3 v := by rw [partIs_of (o := 1) (T := 3) (by kernel_rfl)]; simp [actPs, AV.sizes, AV.size]
theorem actSet_1 {t0 t1 : Tk} {x : Act13} {y : Int} : (actPs t0 t1 x).set 1 (.int .i64 y) = actPs t0 t1 { x with client := y } := nr rfl
theorem actPs_2 {t0 t1 : Tk} {x : Act13} : (actPs t0 t1 x)[2]? = some (.str x.s) := nr rfl
theorem actAt_2 {t0 t1 : Tk} {x : Act13} {v : AV} : partIs Tryz.prog 44 (actPs t0 t1 x) 2 v = fits Tryz.prog 9 v := by rw [partIs_of (o := 2) (T := 9) (by kernel_rfl)]; simp [actPs, AV.sizes, AV.size]
theorem actSet_2 {t0 t1 : Tk} {x : Act13} {y : List UInt8} : (actPs t0 t1 x).set 2 (.str y) = actPs t0 t1 { x with s := y } := nr rfl
theorem actPs_3 {t0 t1 : Tk} {x : Act13} : (actPs t0 t1 x)[3]? = some (.agg (msgPs t0 t1 x.m)) := nr rfl
theorem actAt_3 {t0 t1 : Tk} {x : Act13} {v : AV} : partIs Tryz.prog 44 (actPs t0 t1 x) 3 v = fits Tryz.prog 42 v := by rw [partIs_of (o := 3) (T := 42) (by kernel_rfl)]; simp [actPs, AV.sizes, AV.size]
theorem actSet_3 {t0 t1 : Tk} {u0 u1 : Tk} {x : Act13} {y : Msg} : (actPs t0 t1 x).set 3 (.agg (msgPs u0 u1 y)) = actPs u0 u1 { x with m := y } := nr rfl
theorem sizes_act {t0 t1 : Tk} {x : Act13} : AV.sizes (actPs t0 t1 x) = 278 := by simp [actPs, AV.sizes, AV.size, sizes_msg]
theorem shapes_act {t0 t1 : Tk} {x : Act13} : AV.shapes (actPs t0 t1 x) = [.leaf, .leaf, .leaf, .node [.leaf, .leaf, .node [.leaf, .leaf, .leaf, .leaf, .dig, .dig], .node [.leaf, .leaf, .leaf, .dig, .leaf, .leaf, .leaf, .dig, .leaf, .dig], .leaf, .leaf, .dig, .dig, .node [.leaf, .leaf, .leaf, .dig], .leaf]] := by simp [actPs, AV.shapes, AV.shape, shapes_msg]
theorem fits_act {v : AV} : fits Tryz.prog 44 v = (v.isAgg = true ∧ v.size = 278) := fits_agg (by kernel_rfl) (by kernel_rfl)
theorem zero_act : zeroA Tryz.prog 12 44 = .agg (actPs .full .full act0) := by kernel_rfl
theorem zt_act : ZeroOf Tryz.prog 44 (.agg (actPs .full .full act0)) = True := eq_true ⟨_, _, rfl, rfl, rfl, rfl, rfl⟩
theorem built_act : Built Tryz.prog 44 = True := eq_true (by unfold Built; rw [Tryz.underlying44]; decide +kernel)
/-ATTR subPs_0 subAt_0 subSet_0 subPs_1 subAt_1 subSet_1 subPs_2 subAt_2 subSet_2 subPs_3 subAt_3 subSet_3 subPs_4 subAt_4 subSet_4 subPs_5 subAt_5 subSet_5 sizes_sub shapes_sub fits_sub zero_sub zt_sub built_sub Tryz.underlying34 pendPs_0 pendAt_0 pendSet_0 pendPs_1 pendAt_1 pendSet_1 pendPs_2 pendAt_2 pendSet_2 pendPs_3 pendAt_3 pendSet_3 pendPs_4 pendAt_4 pendSet_4 pendPs_5 pendAt_5 pendSet_5 sizes_pend shapes_pend fits_pend zero_pend zt_pend built_pend Tryz.underlying138 repPs_0 repAt_0 repSet_0 repPs_1 repAt_1 repSet_1 repPs_2 repAt_2 repSet_2 repPs_3 repAt_3 repSet_3 repPs_4 repAt_4 repSet_4 repPs_5 repAt_5 repSet_5 repPs_6 repAt_6 repSet_6 repPs_7 repAt_7 repSet_7 repPs_8 repAt_8 repSet_8 repPs_9 repAt_9 repSet_9 sizes_rep shapes_rep fits_rep zero_rep zt_rep built_rep Tryz.underlying37 blobPs_0 blobAt_0 blobSet_0 blobPs_1 blobAt_1 blobSet_1 blobPs_2 blobAt_2 blobSet_2 blobPs_3 blobAt_3 blobSet_3 sizes_blob shapes_blob fits_blob zero_blob zt_blob built_blob Tryz.underlying39 msgPs_0 msgAt_0 msgSet_0 msgPs_1 msgAt_1 msgSet_1 msgPs_2 msgAt_2 msgSet_2 msgPs_3 msgAt_3 msgSet_3 msgPs_4 msgAt_4 msgSet_4 msgPs_5 msgAt_5 msgSet_5 msgPs_6 msgAt_6 msgSet_6 msgPs_7 msgAt_7 msgSet_7 msgPs_8 msgAt_8 msgSet_8 msgPs_9 msgAt_9 msgSet_9 sizes_msg shapes_msg fits_msg zero_msg zt_msg built_msg Tryz.underlying42 actPs_0 actAt_0 actSet_0 actPs_1 actAt_1 actSet_1 actPs_2 actAt_2 actSet_2 actPs_3 actAt_3 actSet_3 sizes_act shapes_act fits_act zero_act zt_act built_act Tryz.underlying44 -/
def rfPs (r b : Option (Nat × List Nat)) : List AV := [.ptr r, .ptr b]
theorem rfPs_0 {r b : Option (Nat × List Nat)} : (rfPs r b)[0]? = some (.ptr r) := nr rfl
theorem rfPs_1 {r b : Option (Nat × List Nat)} : (rfPs r b)[1]? = some (.ptr b) := nr rfl
theorem rfSet_0 {r b q : Option (Nat × List Nat)} : (rfPs r b).set 0 (.ptr q) = rfPs q b := nr rfl
theorem rfSet_1 {r b q : Option (Nat × List Nat)} : (rfPs r b).set 1 (.ptr q) = rfPs r q := nr rfl
theorem rfAt_0 {r b : Option (Nat × List Nat)} {v : AV} : partIs Tryz.prog 78 (rfPs r b) 0 v = fits Tryz.prog 71 v := by rw [partIs_of (o := 0) (T := 71) (by kernel_rfl)]; simp [rfPs, AV.sizes, AV.size]
theorem rfAt_1 {r b : Option (Nat × List Nat)} {v : AV} : partIs Tryz.prog 78 (rfPs r b) 1 v = fits Tryz.prog 73 v := by rw [partIs_of (o := 1) (T := 73) (by kernel_rfl)]; simp [rfPs, AV.sizes, AV.size]
theorem zero_rf : zeroA Tryz.prog 12 78 = .agg (rfPs none none) := by kernel_rfl
theorem zt_rf : ZeroOf Tryz.prog 78 (.agg (rfPs none none)) = True := eq_true ⟨_, _, rfl, rfl, rfl, rfl, rfl⟩
theorem built_rf : Built Tryz.prog 78 = True := eq_true (by unfold Built; rw [Tryz.underlying78]; decide +kernel)
theorem fits71p {o : Option (Nat × List Nat)} : fits Tryz.prog 71 (.ptr o) = True := by rw [fits_leaf (P := Tryz.prog) (t := 71) (by kernel_rfl) (by kernel_rfl)]; simp [AV.isAgg, AV.size]
theorem fits73p {o : Option (Nat × List Nat)} : fits Tryz.prog 73 (.ptr o) = True := by rw [fits_leaf (P := Tryz.prog) (t := 73) (by kernel_rfl) (by kernel_rfl)]; simp [AV.isAgg, AV.size]
structure Ads where
  q : Nat
  x : Nat
  j : Nat
  k : Nat
  i1 : Nat
  i2 : Nat
  i3 : Nat
  i4 : Nat
  b : Nat
  mi : Nat
  kb : Nat
def Ads.regs (A : Ads) : List Nat := [A.j, A.k, A.i1, A.i2, A.i3, A.i4]
def Ads.blobs (A : Ads) : List Nat := [A.b, A.mi, A.kb]
def frame (s : AST) (ks : List Nat) : List (Nat × AObj) := ((List.range s.objs.length).filter fun i => decide (i ∉ ks)).filterMap fun i => (s.objs[i]?).map fun o => (i, o)
theorem mem_frame {s : AST} {ks : List Nat} {x : Nat × AObj} : x ∈ frame s ks ↔ x.1 ∉ ks ∧ s.objs[x.1]? = some x.2 := by
  obtain ⟨i, o⟩ := x
  simp only [frame, List.mem_filterMap, List.mem_filter, List.mem_range, decide_eq_true_eq, Option.map_eq_some_iff, Prod.mk.injEq]
  constructor
  · rintro ⟨a, ⟨h1, h2⟩, b, h3, rfl, rfl⟩
    exact ⟨h2, h3⟩
  · rintro ⟨h1, h2⟩
    exact ⟨i, ⟨(List.getElem?_eq_some_iff.1 h2).1, h1⟩, o, h2, rfl, rfl⟩
section
variable {σ0 s s2 : AST} {j k i1 i2 i3 i4 b mi kb : Nat} {M N : Reg} {B C : List Blob} {F G : List (Nat × AObj)} {K : AV → AST → Prop}
theorem Bo.with (h : Bo σ0 s j k i1 i2 i3 i4 M N F) (hG : ∀ x ∈ G, x.1 ∉ [j, k, i1, i2, i3, i4] ∧ s.objs[x.1]? = some x.2) : Bo σ0 s j k i1 i2 i3 i4 M N G := by
  obtain ⟨R, hR, hP⟩ := h.p
  have hQ := h.q
  refine ⟨⟨R, hR, hP.x, hP.jn, hP.h8, hP.o, fun x hx => ⟨fun e => (hG x hx).1 (by simp [e]), (hG x hx).2⟩⟩, ⟨hQ.x, hQ.jn, hQ.nd, hQ.n0, hQ.n8, hQ.l1, hQ.l2, hQ.l3, hQ.l4, hQ.o, hQ.o1, hQ.o2, hQ.o3, hQ.o4, fun x hx => ⟨fun e => (hG x hx).1 (List.mem_cons_of_mem _ e), (hG x hx).2⟩⟩, h.jk⟩
theorem Tw.with (h : Tw σ0 s b mi kb B C F) (hG : ∀ x ∈ G, x.1 ∉ [b, mi, kb] ∧ s.objs[x.1]? = some x.2) : Tw σ0 s b mi kb B C G := by
  have hP := h.p
  have hQ := h.q
  refine ⟨⟨hP.x, hP.jn, hP.mn, hP.jm, hP.o, hP.om, fun x hx => ⟨fun e => (hG x hx).1 (by simp [e]), fun e => (hG x hx).1 (by simp [e]), (hG x hx).2⟩⟩, ⟨hQ.x, hQ.kn, hQ.o, fun x hx => ⟨fun e => (hG x hx).1 (by simp [e]), (hG x hx).2⟩⟩, h.kj, h.km⟩
theorem Bo.keep (h : Bo σ0 s j k i1 i2 i3 i4 M N F) (hx : Ext σ0 s2) (hk : ∀ i ∈ [j, k, i1, i2, i3, i4], ∀ o, s.objs[i]? = some o → s2.objs[i]? = some o) : Bo σ0 s2 j k i1 i2 i3 i4 M N [] := by
  obtain ⟨R, hR, hP⟩ := h.p
  have hQ := h.q
  obtain ⟨t, o⟩ := hP.o
  obtain ⟨t2, o2⟩ := hQ.o
  obtain ⟨l, hl, o3⟩ := hQ.o2
  refine ⟨⟨R, hR, hx, hP.jn, hP.h8, ⟨t, hk _ (by simp) _ o⟩, by simp⟩, ⟨hx, hQ.jn, hQ.nd, hQ.n0, hQ.n8, hQ.l1, hQ.l2, hQ.l3, hQ.l4, ⟨t2, hk _ (by simp) _ o2⟩, hk _ (by simp) _ hQ.o1, ⟨l, hl, hk _ (by simp) _ o3⟩, hk _ (by simp) _ hQ.o3, hk _ (by simp) _ hQ.o4, by simp⟩, h.jk⟩
theorem Tw.keep (h : Tw σ0 s b mi kb B C F) (hx : Ext σ0 s2) (hk : ∀ i ∈ [b, mi, kb], ∀ o, s.objs[i]? = some o → s2.objs[i]? = some o) : Tw σ0 s2 b mi kb B C [] := by
  have hP := h.p
  have hQ := h.q
  obtain ⟨E, ck, e1, e2, e3, e4⟩ := hP.om
  obtain ⟨t, o⟩ := hQ.o
  exact ⟨⟨hx, hP.jn, hP.mn, hP.jm, hk _ (by simp) _ hP.o, ⟨E, ck, e1, hk _ (by simp) _ e2, e3, e4⟩, by simp⟩, ⟨hx, hQ.kn, ⟨t, hk _ (by simp) _ o⟩, by simp⟩, h.kj, h.km⟩
end
def refO (k kb : Nat) : AObj := .cells (.agg (rfPs (some (k, [])) (some (kb, []))))
structure Sv (σ0 s : AST) (A : Ads) (n : Int) (M N : Reg) (B C : List Blob) (F : List (Nat × AObj)) : Prop where
  r : Bo σ0 s A.j A.k A.i1 A.i2 A.i3 A.i4 M N []
  t : Tw σ0 s A.b A.mi A.kb B C []
  d : ∀ i ∈ A.regs, i ∉ A.blobs
  q : s.objs[A.q]? = some (srvO n A.j A.b)
  x : s.objs[A.x]? = some (refO A.k A.kb)
  dq : A.q ∉ A.regs ++ A.blobs
  dx : A.x ∉ A.regs ++ A.blobs
  f : ∀ y ∈ F, y.1 ∉ A.regs ++ A.blobs ∧ s.objs[y.1]? = some y.2
section
variable {σ0 s s2 : AST} {A : Ads} {n : Int} {M N M' N' : Reg} {B C B' C' : List Blob} {F G : List (Nat × AObj)} {K : AV → AST → Prop}
theorem Sv.ext0 (h : Sv σ0 s A n M N B C F) : Ext σ0 s := h.t.p.x
theorem Sv.ext (h : Sv σ0 s A n M N B C F) (e : Ext s s2) : Sv σ0 s2 A n M N B C F :=
  ⟨h.r.ext e, h.t.ext e, h.d, ext_known e h.q, ext_known e h.x, h.dq, h.dx, fun y hy => ⟨(h.f y hy).1, ext_known e (h.f y hy).2⟩⟩
theorem Sv.lt (h : Sv σ0 s A n M N B C F) : ∀ i ∈ A.regs ++ A.blobs, i < s.objs.length := by
  have h1 := h.r.lt
  have h2 := h.t.lt
  intro i hi
  simp only [Ads.regs, Ads.blobs, List.mem_append, List.mem_cons, List.not_mem_nil, or_false] at hi
  omega
theorem Sv.more (h : Sv σ0 s A n M N B C F) {i : Nat} {o : AObj} (ho : s.objs[i]? = some o) (hi : i ∉ A.regs ++ A.blobs) : Sv σ0 s A n M N B C ((i, o) :: F) :=
  ⟨h.r, h.t, h.d, h.q, h.x, h.dq, h.dx, fun y hy => by
    rcases List.mem_cons.1 hy with rfl | hy
    · exact ⟨hi, ho⟩
    · exact h.f y hy⟩
theorem Sv.sub (h : Sv σ0 s A n M N B C F) (hg : ∀ y ∈ G, y ∈ F) : Sv σ0 s A n M N B C G := ⟨h.r, h.t, h.d, h.q, h.x, h.dq, h.dx, fun y hy => h.f y (hg y hy)⟩
theorem Sv.less {y : Nat × AObj} (h : Sv σ0 s A n M N B C (y :: F)) : Sv σ0 s A n M N B C F := h.sub fun _ hx => List.mem_cons_of_mem _ hx
theorem Sv.box (h : Sv σ0 s A n M N B C F) (o : AObj) : Sv σ0 (s.app [o]) A n M N B C ((s.objs.length, o) :: F) :=
  (h.ext (Ext.app _ _)).more objs_app0 fun hi => Nat.lt_irrefl _ (h.lt _ hi)
theorem Sv.setF {i : Nat} {o o' : AObj} (h : Sv σ0 s A n M N B C ((i, o) :: F)) (hi : σ0.objs.length ≤ i) (hq : i ≠ A.q) (hx : i ≠ A.x) (hF : ∀ y ∈ F, y.1 ≠ i) : Sv σ0 (s.set i o') A n M N B C ((i, o') :: F) := by
  have hf := h.f _ (List.mem_cons_self ..)
  dsimp only at hf
  have hl := (List.getElem?_eq_some_iff.1 hf.2).1
  have e : Ext σ0 (s.set i o') := h.ext0.set hi
  have k : ∀ j, j ≠ i → ∀ p, s.objs[j]? = some p → (s.set i o').objs[j]? = some p := fun j hj p hp => by simp only [AST.set]; rw [List.getElem?_set_ne (Ne.symm hj)]; exact hp
  refine ⟨h.r.keep e fun j hj p hp => k j (fun e => hf.1 (List.mem_append_left _ (e ▸ hj))) p hp, h.t.keep e fun j hj p hp => k j (fun e => hf.1 (List.mem_append_right _ (e ▸ hj))) p hp, h.d, k _ (Ne.symm hq) _ h.q, k _ (Ne.symm hx) _ h.x, h.dq, h.dx, fun y hy => ?_⟩
  rcases List.mem_cons.1 hy with rfl | hy
  · exact ⟨hf.1, by simp only [AST.set]; rw [List.getElem?_set_self hl]⟩
  · exact ⟨(h.f y (List.mem_cons_of_mem _ hy)).1, k _ (hF y hy) _ (h.f y (List.mem_cons_of_mem _ hy)).2⟩
theorem Sv.ltF (h : Sv σ0 s A n M N B C F) {y : Nat × AObj} (hy : y ∈ F) : y.1 < s.objs.length := (List.getElem?_eq_some_iff.1 (h.f y hy).2).1
theorem Sv.ltq (h : Sv σ0 s A n M N B C F) : A.q < s.objs.length := (List.getElem?_eq_some_iff.1 h.q).1
theorem Sv.ltx (h : Sv σ0 s A n M N B C F) : A.x < s.objs.length := (List.getElem?_eq_some_iff.1 h.x).1
theorem Sv.regs (h : Sv σ0 s A n M N B C F) (hb : Bo σ0 s2 A.j A.k A.i1 A.i2 A.i3 A.i4 M' N' (frame s A.regs)) : Sv σ0 s2 A n M' N' B C F := by
  have hf : ∀ i, i ∉ A.regs → ∀ o, s.objs[i]? = some o → s2.objs[i]? = some o := fun i hi o ho => (hb.q.f (i, o) (mem_frame.2 ⟨hi, ho⟩)).2
  have na : ∀ {i}, i ∉ A.regs ++ A.blobs → i ∉ A.regs := fun h e => h (List.mem_append_left _ e)
  exact ⟨hb.with (by simp), h.t.keep hb.q.x fun i hi o ho => hf i (fun e => h.d i e hi) o ho, h.d, hf _ (na h.dq) _ h.q, hf _ (na h.dx) _ h.x, h.dq, h.dx, fun y hy => ⟨(h.f y hy).1, hf _ (na (h.f y hy).1) _ (h.f y hy).2⟩⟩
theorem Sv.blobs (h : Sv σ0 s A n M N B C F) (hb : Tw σ0 s2 A.b A.mi A.kb B' C' (frame s A.blobs)) : Sv σ0 s2 A n M N B' C' F := by
  have hf : ∀ i, i ∉ A.blobs → ∀ o, s.objs[i]? = some o → s2.objs[i]? = some o := fun i hi o ho => (hb.q.f (i, o) (mem_frame.2 ⟨hi, ho⟩)).2
  have na : ∀ {i}, i ∉ A.regs ++ A.blobs → i ∉ A.blobs := fun h e => h (List.mem_append_right _ e)
  exact ⟨h.r.keep hb.q.x fun i hi o ho => hf i (h.d i hi) o ho, hb.with (by simp), h.d, hf _ (na h.dq) _ h.q, hf _ (na h.dx) _ h.x, h.dq, h.dx, fun y hy => ⟨(h.f y hy).1, hf _ (na (h.f y hy).1) _ (h.f y hy).2⟩⟩
theorem Sv.bo (h : Sv σ0 s A n M N B C F) : Bo σ0 s A.j A.k A.i1 A.i2 A.i3 A.i4 M N (frame s A.regs) := h.r.with fun x hx => mem_frame.1 hx
theorem Sv.tw (h : Sv σ0 s A n M N B C F) : Tw σ0 s A.b A.mi A.kb B C (frame s A.blobs) := h.t.with fun x hx => mem_frame.1 hx
theorem Sv.sf (h : Sv σ0 s A n M N B C F) : SF σ0 s A.b A.mi B [(A.q, srvO n A.j A.b)] := (h.t.with (G := [(A.q, srvO n A.j A.b)]) fun x hx => by
  simp only [List.mem_cons, List.not_mem_nil, or_false] at hx
  subst hx
  exact ⟨fun e => h.dq (List.mem_append_right _ e), h.q⟩).p
theorem vSubmit_c (h : Sv σ0 s A n M N B C F) (hM : M.Ok) {c : Int} {x : Sub} (hK : ∀ t s', Sv σ0 s' A n (M.submit c x).1 N B C F → K (.tuple [repV t (M.submit c x).2.1, .int .i64 (M.submit c x).2.2]) s') :
    TCalls Tryz.prog 77 [.ptr (some (A.j, [])), .int .i64 c, subV x] s K := bSubmit_c h.bo hM fun t s' h' => hK t s' (h.regs h')
theorem vCommit_c (h : Sv σ0 s A n M N B C F) (hM : M.Ok) {c : Int} {v : List UInt8} {t : Dig} (hK : ∀ s', Sv σ0 s' A n (M.commit c v t).1 N B C F → K (.int .i64 (M.commit c v t).2) s') :
    TCalls Tryz.prog 35 [.ptr (some (A.j, [])), .int .i64 c, .str v, .dig t] s K := bCommit_c h.bo hM fun s' h' => hK s' (h.regs h')
theorem vRSubmit_c (h : Sv σ0 s A n M N B C F) (hN : N.Ok) {c : Int} {x : Sub} (hK : ∀ t s', Sv σ0 s' A n M (N.submit c x).1 B C F → K (.tuple [repV t (N.submit c x).2.1, .int .i64 (N.submit c x).2.2]) s') :
    TCalls Tryz.prog 38 [.ptr (some (A.k, [])), .int .i64 c, subV x] s K := bRSubmit_c h.bo hN fun t s' h' => hK t s' (h.regs h')
theorem vRCommit_c (h : Sv σ0 s A n M N B C F) (hN : N.Ok) {c : Int} {v : List UInt8} {t : Dig} (hK : ∀ s', Sv σ0 s' A n M (N.commit c v t).1 B C F → K (.int .i64 (N.commit c v t).2) s') :
    TCalls Tryz.prog 39 [.ptr (some (A.k, [])), .int .i64 c, .str v, .dig t] s K := bRCommit_c h.bo hN fun s' h' => hK s' (h.regs h')
theorem vPut_c (h : Sv σ0 s A n M N B C F) (hB : BOk B) {b : Blob} (hK : ∀ s', Sv σ0 s' A n M N (bput B b).1 C F → K (.int .i64 (bput B b).2) s') :
    TCalls Tryz.prog 36 [.ptr (some (A.b, [])), .agg (blobPs b)] s K := tput_c h.tw hB fun s' h' => hK s' (h.blobs h')
theorem vPrune_c (h : Sv σ0 s A n M N B C F) (hB : BOk B) {o : Int} {tl : Tk} {l : List Int} (hK : ∀ s', Sv σ0 s' A n M N (bprune B o l).1 C F → K (.int .i64 (bprune B o l).2) s') :
    TCalls Tryz.prog 37 [.ptr (some (A.b, [])), .int .i64 o, .slice tl (l.map (AV.int .i64))] s K := tprune_c h.tw hB fun s' h' => hK s' (h.blobs h')
theorem vRPut_c (h : Sv σ0 s A n M N B C F) (hC : BOk C) {b : Blob} (hK : ∀ s', Sv σ0 s' A n M N B (bput C b).1 F → K (.int .i64 (bput C b).2) s') :
    TCalls Tryz.prog 40 [.ptr (some (A.kb, [])), .agg (blobPs b)] s K := trput_c h.tw hC fun s' h' => hK s' (h.blobs h')
theorem vRPrune_c (h : Sv σ0 s A n M N B C F) (hC : BOk C) {o : Int} {tl : Tk} {l : List Int} (hK : ∀ s', Sv σ0 s' A n M N B (bprune C o l).1 F → K (.int .i64 (bprune C o l).2) s') :
    TCalls Tryz.prog 42 [.ptr (some (A.kb, [])), .int .i64 o, .slice tl (l.map (AV.int .i64))] s K := trprune_c h.tw hC fun s' h' => hK s' (h.blobs h')
end
attribute [local go_sem] Tryz.underlying32 subPs_0 subAt_0 subSet_0 subPs_1 subAt_1 subSet_1 subPs_2 subAt_2 subSet_2 subPs_3 subAt_3 subSet_3 subPs_4 subAt_4 subSet_4 subPs_5 subAt_5 subSet_5 sizes_sub shapes_sub fits_sub zero_sub zt_sub built_sub pendPs_0 pendAt_0 pendSet_0 pendPs_1 pendAt_1 pendSet_1 pendPs_2 pendAt_2 pendSet_2 pendPs_3 pendAt_3 pendSet_3 pendPs_4 pendAt_4 pendSet_4 pendPs_5 pendAt_5 pendSet_5 sizes_pend shapes_pend fits_pend zero_pend zt_pend built_pend blobSet_0 blobSet_1 blobSet_2 blobPs_3 blobAt_3 blobSet_3 built_blob at_Ps_0 at_At_0 at_Set_0 at_Ps_1 at_At_1 at_Set_1 sizes_at_ shapes_at_ fits_at_ zero_at_ zt_at_ built_at_ Tryz.underlying110
attribute [local go_sem] fits5 fits23 fits34 zt23 zero23
attribute [local go_sem] bin_bool_ne appc appn built23

attribute [local go_sem] msgSet_9s slV_eq
theorem res_cc {P : Program} {τ : Env} {σ : AST} {a b : Nat} {ty tz : TypeId} {KV : AV → Prop} : resW P [.cell a ty, .cell b tz] τ σ KV = loadW P σ ty (τ a) (@LamA _ ⟨fun x => loadW P σ tz (τ b) (@LamA _ ⟨fun y => (x.known = true ∧ y.known = true) ∧ @Later ⟨KV (.tuple [x, y])⟩⟩)⟩) := by
  simp [resW, resList, oneRes, Later, LamA]
attribute [local go_sem ↓] res_cc
theorem textR_err {s : List UInt8} {i : Int} (h : (textR s i).2.2 ≠ 0) : (textR s i).1 = [] := by
  unfold textR at h ⊢
  split
  · rfl
  · rename_i h1
    rw [if_neg h1] at h
    unfold textP at h ⊢
    split
    · rfl
    · rename_i h2
      rw [if_neg h2] at h
      split
      · rfl
      · rename_i h3
        rw [if_neg h3] at h
        split
        · rfl
        · rename_i h4
          rw [if_neg h4] at h
          exact absurd rfl h
theorem text_err {r : Rdr} (h : r.text.2.e ≠ 0) : r.text.1 = [] := by
  unfold Rdr.text at h ⊢
  split
  · rfl
  · rename_i h1
    rw [if_neg h1] at h
    exact textR_err h
structure Sim (s : List UInt8) (r : Rdr) (a : At) : Prop where
  q : r.s = s
  e : a.e = r.e
  p : r.e = 0 → a.n = r.at_ ∧ 0 ≤ r.at_ ∧ r.at_ ≤ s.length
  l : s.length ≤ 9223372036854775807
theorem refInt_c {s : List UInt8} {r : Rdr} {a : At} {σ : AST} {K : AV → AST → Prop} (hS : Sim s r a) (hK : ∀ b, Sim s r.int.2 b → K (.tuple [.int .i64 r.int.1, at_V b]) σ) : TCalls Tryz.prog 48 [.str s, at_V a] σ K := by
  refine TCalls.drop ?_
  refine tcalls_walk Tryz.f48 _ [.tmp 4, .cell 5 110] Tryz.func48 rfl rfl rfl mixed (Nat.le_of_ble_eq_true rfl) rfl fun hlen => ?_
  have hl := hS.l
  by_cases he : r.e = 0
  · obtain ⟨p1, p2, p3⟩ := hS.p he
    have ha : a.e = 0 := by rw [hS.e, he]
    have e : r.int = ((numR s a.n).1, { r with at_ := (numR s a.n).2.1, e := (numR s a.n).2.2 }) := by rw [Rdr.int, if_neg (by simp [he])]; rw [hS.q, p1]
    rw [e] at hK
    repeat' (first | (simp -dsimp only [↓reduceIte, go_sem, ha, tup3, tupT]) | (refine L01.ReadNumber_c (by omega) (by omega) ?_) | fail)
    refine ⟨Ext.app _ _, rfl, ?_⟩
    have hb : Sim s { r with at_ := (numR s a.n).2.1, e := (numR s a.n).2.2 } ⟨(numR s a.n).2.1, (numR s a.n).2.2⟩ := ⟨hS.q, rfl, fun h0 => by have := prog_num (s := s) (i := a.n) h0; exact ⟨rfl, by dsimp only; omega, by dsimp only; omega⟩, hl⟩
    simpa [AV.strip, AV.strips, strip_at_] using hK _ hb
  · have ha : ¬ a.e = 0 := by rw [hS.e]; exact he
    have e : r.int = (0, r) := by rw [Rdr.int, if_pos he]
    rw [e] at hK
    repeat' (first | (simp -dsimp only [↓reduceIte, go_sem, ha]) | (refine later_intro ⟨keeps_nil, ?_⟩) | (refine guardV_split (fun h => ?_) (fun h => ?_) <;> (try rw [h]) <;> (try simp at h) <;> (try (exfalso; omega))) | (with_reducible refine awp_drawT (id := 2) (.op 0 2 (.op 1 2 (.op 2 1 .nil))) (by kernel_rfl) ?_) | fail)
    refine ⟨Ext.app _ _, rfl, ?_⟩
    simpa [AV.strip, AV.strips, strip_at_] using hK a hS
theorem refStr_c {s : List UInt8} {r : Rdr} {a : At} {σ : AST} {K : AV → AST → Prop} (hS : Sim s r a) (hK : ∀ b, Sim s r.text.2 b → K (.tuple [.str r.text.1, at_V b]) σ) : TCalls Tryz.prog 88 [.str s, at_V a] σ K := by
  refine TCalls.drop ?_
  refine tcalls_walk Tryz.f88 _ [.tmp 4, .cell 5 110] Tryz.func88 rfl rfl rfl mixed (Nat.le_of_ble_eq_true rfl) rfl fun hlen => ?_
  have hl := hS.l
  by_cases he : r.e = 0
  · obtain ⟨p1, p2, p3⟩ := hS.p he
    have ha : a.e = 0 := by rw [hS.e, he]
    have e : r.text = ((textR s a.n).1, { r with at_ := (textR s a.n).2.1, e := (textR s a.n).2.2 }) := by rw [Rdr.text, if_neg (by simp [he])]; rw [hS.q, p1]
    rw [e] at hK
    repeat' (first | (simp -dsimp only [↓reduceIte, go_sem, ha, tup3, tupT]) | (refine L01.ReadText_c (by omega) (by omega) ?_) | fail)
    refine ⟨Ext.app _ _, rfl, ?_⟩
    have hb : Sim s { r with at_ := (textR s a.n).2.1, e := (textR s a.n).2.2 } ⟨(textR s a.n).2.1, (textR s a.n).2.2⟩ := ⟨hS.q, rfl, fun h0 => by have := prog_text (s := s) (i := a.n) h0; exact ⟨rfl, by dsimp only; omega, by dsimp only; omega⟩, hl⟩
    simpa [AV.strip, AV.strips, strip_at_] using hK _ hb
  · have ha : ¬ a.e = 0 := by rw [hS.e]; exact he
    have e : r.text = ([], r) := by rw [Rdr.text, if_pos he]
    rw [e] at hK
    repeat' (first | (simp -dsimp only [↓reduceIte, go_sem, ha]) | (refine later_intro ⟨keeps_nil, ?_⟩) | (refine guardV_split (fun h => ?_) (fun h => ?_) <;> (try rw [h]) <;> (try simp at h) <;> (try (exfalso; omega))) | (with_reducible refine awp_drawT (id := 2) (.op 0 2 (.op 1 2 (.op 2 1 .nil))) (by kernel_rfl) ?_) | fail)
    refine ⟨Ext.app _ _, rfl, ?_⟩
    simpa [AV.strip, AV.strips, strip_at_] using hK a hS
theorem refDigest_c {s : List UInt8} {r : Rdr} {a : At} {σ : AST} {K : AV → AST → Prop} (h : Sim s r a) (hK : ∀ b, Sim s r.dig.2 b → K (.tuple [.dig r.dig.1, at_V b]) σ) : TCalls Tryz.prog 89 [.str s, at_V a] σ K := by
  refine TCalls.drop ?_
  refine tcalls_walk Tryz.f89 _ [.cell 4 32, .cell 5 110] Tryz.func89 rfl rfl rfl mixed (Nat.le_of_ble_eq_true rfl) rfl fun hlen => ?_
  repeat' (simp -dsimp only [↓reduceIte, go_sem])
  refine refStr_c h fun b hb => ?_
  by_cases he : r.text.2.e = 0
  · have ha : b.e = 0 := by rw [hb.e, he]
    by_cases h32 : r.text.1.length = 32
    · have hb0 := hb
      have e : r.dig = (⟨r.text.1, h32⟩, r.text.2) := by
        have : digOf r.text.1 = (⟨r.text.1, h32⟩, 0) := by unfold digOf; rw [dif_pos h32]
        simp only [Rdr.dig, this]; simp
      rw [e] at hK
      generalize r.text.1 = t at *
      repeat' (first | (simp -dsimp only [↓reduceIte, go_sem, ha, h32]) | (refine arr_intro fun _ => ?_) | (refine guardV_split (fun h => ?_) (fun h => ?_) <;> (try rw [h]) <;> (try simp at h) <;> (try (exfalso; omega))) | fail)
      refine awp_rounds (fun (i : Nat) τ st => ∃ d : Dig, i ≤ 32 ∧ d.l.take i = t.take i ∧ st = σ.app [.cells (at_V a), .cells (.dig dig0), .cells (at_V at_0), .cells (.dig d), .cells (at_V b)] ∧ τ 4 = .ptr (some (σ.objs.length + 1, [])) ∧ τ 5 = .ptr (some (σ.objs.length + 2, [])) ∧ τ 6 = .ptr (some (σ.objs.length + 3, [])) ∧ τ 7 = .str t ∧ τ 8 = .ptr (some (σ.objs.length + 4, [])) ∧ τ 9 = .int .i64 i) (fun i => 32 - i) 0 ?_ ?_
      · refine ⟨dig0, by omega, by simp, rfl, ?_, ?_, ?_, ?_, ?_, ?_⟩ <;> (try simp only [go_sem]) <;> rfl
      · rintro i τ st ⟨d, hi, hd, rfl, t4, t5, t6, t7, t8, t9⟩
        simp -dsimp only [↓reduceIte, go_sem, t4, t5, t6, t7, t8, t9]
        refine boolW_split (fun hb => ?_) (fun hb => ?_)
        · have hb : i < 32 := by simp at hb; omega
          obtain ⟨y, hy, hm⟩ := get_of_lt (l := t) (i := i) (by omega)
          have hdl := d.h
          obtain ⟨y2, hy2, hm2⟩ := get_of_lt (l := d.l) (i := i) (by omega)
          repeat' (first | (simp -dsimp only [↓reduceIte, go_sem, t4, t5, t6, t7, t8, t9, at_dig1, hy2, Option.map_some]) | (refine nth_get hy ?_) | (refine indexAddr_dig Tryz.underlying32 (by simp [go_sem]) (by simp [go_sem]; rfl) hb ?_) | fail)
          have hyy := y.toNat_lt
          refine side_later (by simp [setOk]; omega) ?_
          repeat' (first | (simp -dsimp only [↓reduceIte, go_sem, t4, t5, t6, t7, t8, t9, AV.setAt]) | (rw [wrap_i64 (by omega) (by omega)]) | fail)
          have e5 : UInt8.ofNat (Int.toNat (y.toNat : Int)) = y := by simp
          have e6 : (d.set i (y.toNat : Int)).l.take (i + 1) = t.take (i + 1) := by
            simp only [Dig.set, e5]
            rw [List.take_add_one, List.getElem?_set_self (by omega), List.take_add_one (l := t), hy, ← hd, List.take_set]
            rw [List.set_eq_of_length_le (by simp; omega)]
          refine later_intro ⟨i + 1, by omega, d.set i (y.toNat : Int), by omega, e6, rfl, ?_, ?_, ?_, ?_, ?_, ?_⟩ <;> (try simp only [go_sem, t4, t5, t6, t7, t8, t9]) <;> rfl
        · have hb : i = 32 := by simp at hb; omega
          subst hb
          have ed : d = ⟨t, h32⟩ := by
            cases d with
            | mk l hl =>
              simp only [List.take_of_length_le (Nat.le_of_eq hl), List.take_of_length_le (Nat.le_of_eq h32)] at hd
              subst hd; rfl
          subst ed
          repeat' (first | (simp -dsimp only [↓reduceIte, go_sem, t4, t5, t6, t7, t8, t9]) | (refine later_intro ⟨keeps_nil, ?_⟩) | (with_reducible refine keeps_go ?_ ?_; focus (first | (simp [keeps_cons, keeps_none, objs_app, objs_app0]; done) | fail)) | (with_reducible refine awp_drawU (id := 11) (.op 0 2 (.op 1 0 (.op 2 1 (.cut (.op 3 1 .nil))))) (by kernel_rfl) ?_) | fail)
          refine ⟨Ext.app _ _, rfl, ?_⟩
          simpa [AV.strip, AV.strips, strip_at_] using hK b hb0
    · have e : r.dig = (dig0, { r.text.2 with e := 6 }) := by
        have : digOf r.text.1 = (dig0, if r.text.1.length < 32 then 5 else 6) := by unfold digOf; rw [dif_neg h32]
        simp only [Rdr.dig, this]
        rw [if_pos ⟨he, by split <;> decide⟩]
      rw [e] at hK
      repeat' (first | (simp -dsimp only [↓reduceIte, go_sem, ha, h32]) | (refine arr_intro fun _ => ?_) | (refine guardV_split (fun h => ?_) (fun h => ?_) <;> (try rw [h]) <;> (try simp at h) <;> (try (exfalso; omega))) | fail)
      refine ⟨Ext.app _ _, rfl, ?_⟩
      simpa [AV.strip, AV.strips, strip_at_] using hK ⟨at_0.n, 6⟩ ⟨hb.q, rfl, fun h0 => by simp at h0, hb.l⟩
  · have ha : ¬ b.e = 0 := by rw [hb.e]; exact he
    have e : r.dig = (dig0, r.text.2) := by
      simp only [Rdr.dig]
      rw [if_neg (fun h => he h.1)]
      have h0 : r.text.1 = [] := text_err he
      rw [h0]; unfold digOf; simp
    rw [e] at hK
    repeat' (first | (simp -dsimp only [↓reduceIte, go_sem, ha]) | (refine later_intro ⟨keeps_nil, ?_⟩) | (refine later_intro ⟨keeps_refl, ?_⟩) | (refine guardV_split (fun h => ?_) (fun h => ?_) <;> (try rw [h]) <;> (try simp at h) <;> (try (exfalso; omega))) | (with_reducible refine awp_drawU (id := 4) (.op 0 2 (.op 1 0 (.op 2 1 (.cut (.op 3 1 .nil))))) (by kernel_rfl) ?_) | fail)
    refine ⟨Ext.app _ _, rfl, ?_⟩
    simpa [AV.strip, AV.strips, strip_at_] using hK b hb

attribute [local go_sem] msgSet_9s slV_eq
attribute [local go_sem ↓] res_cc
noncomputable def Rdr.sub (r : Rdr) : Sub × Rdr := (⟨r.int.1, r.int.2.int.1, r.int.2.int.2.int.1, r.int.2.int.2.int.2.text.1, r.int.2.int.2.int.2.text.2.dig.1, r.int.2.int.2.int.2.text.2.dig.2.dig.1⟩, r.int.2.int.2.int.2.text.2.dig.2.dig.2)
noncomputable def Rdr.blob (r : Rdr) : Blob × Rdr := (⟨r.int.1, r.int.2.int.1, r.int.2.int.2.text.1, r.int.2.int.2.text.2.dig.1⟩, r.int.2.int.2.text.2.dig.2)
theorem refOne_c {s : List UInt8} {r : Rdr} {a : At} {σ : AST} {K : AV → AST → Prop} (hS : Sim s r a) (hK : ∀ b, Sim s r.pend.2 b → K (.tuple [pendV r.pend.1, at_V b]) σ) : TCalls Tryz.prog 90 [.str s, at_V a] σ K := by
  refine TCalls.drop ?_
  refine tcalls_walk Tryz.f90 _ [.cell 4 138, .cell 5 110] Tryz.func90 rfl rfl rfl mixed (Nat.le_of_ble_eq_true rfl) rfl fun hlen => ?_
  repeat' (simp -dsimp only [↓reduceIte, go_sem])
  refine refInt_c hS fun b hS => ?_
  repeat' (simp -dsimp only [↓reduceIte, go_sem])
  refine refInt_c hS fun b hS => ?_
  repeat' (simp -dsimp only [↓reduceIte, go_sem])
  refine refInt_c hS fun b hS => ?_
  repeat' (simp -dsimp only [↓reduceIte, go_sem])
  refine refInt_c hS fun b hS => ?_
  repeat' (simp -dsimp only [↓reduceIte, go_sem])
  refine refDigest_c hS fun b hS => ?_
  repeat' (simp -dsimp only [↓reduceIte, go_sem])
  refine refDigest_c hS fun b hS => ?_
  repeat' (first | (simp -dsimp only [↓reduceIte, go_sem]) | (refine later_intro ⟨keeps_nil, ?_⟩) | (with_reducible refine (And.intro (a := keeps _ _ _) ?_ ?_); focus (first | (simp [keeps_cons, keeps_none, objs_app, objs_app0]; done) | fail)) | (with_reducible refine awp_drawU (id := 7) (.op 0 2 (.op 1 2 (.op 2 2 (.op 3 2 (.op 4 2 (.op 5 2 (.op 6 2 (.op 7 0 (.op 8 1 (.cut (.op 9 1 .nil))))))))))) (by kernel_rfl) ?_) | fail)
  refine ⟨Ext.app _ _, ?_, ?_⟩
  · simp [AV.noRef, AV.noRefs, noRef_pend, noRef_at_, subPs, blobPs]
  · simp only [AV.strip, AV.strips, strip_pend, strip_at_]; exact hK _ hS
theorem rdSubmit_c {s : List UInt8} {r : Rdr} {a : At} {σ : AST} {K : AV → AST → Prop} (hS : Sim s r a) (hK : ∀ b, Sim s r.sub.2 b → K (.tuple [subV r.sub.1, at_V b]) σ) : TCalls Tryz.prog 50 [.str s, at_V a] σ K := by
  refine TCalls.drop ?_
  refine tcalls_walk Tryz.f50 _ [.cell 4 34, .cell 5 110] Tryz.func50 rfl rfl rfl mixed (Nat.le_of_ble_eq_true rfl) rfl fun hlen => ?_
  repeat' (simp -dsimp only [↓reduceIte, go_sem])
  refine refInt_c hS fun b hS => ?_
  repeat' (simp -dsimp only [↓reduceIte, go_sem])
  refine refInt_c hS fun b hS => ?_
  repeat' (simp -dsimp only [↓reduceIte, go_sem])
  refine refInt_c hS fun b hS => ?_
  repeat' (simp -dsimp only [↓reduceIte, go_sem])
  refine refStr_c hS fun b hS => ?_
  repeat' (simp -dsimp only [↓reduceIte, go_sem])
  refine refDigest_c hS fun b hS => ?_
  repeat' (simp -dsimp only [↓reduceIte, go_sem])
  refine refDigest_c hS fun b hS => ?_
  repeat' (first | (simp -dsimp only [↓reduceIte, go_sem]) | (refine later_intro ⟨keeps_nil, ?_⟩) | (with_reducible refine (And.intro (a := keeps _ _ _) ?_ ?_); focus (first | (simp [keeps_cons, keeps_none, objs_app, objs_app0]; done) | fail)) | (with_reducible refine awp_drawU (id := 7) (.op 0 2 (.op 1 2 (.op 2 2 (.op 3 2 (.op 4 2 (.op 5 2 (.op 6 2 (.op 7 0 (.op 8 1 (.cut (.op 9 1 .nil))))))))))) (by kernel_rfl) ?_) | fail)
  refine ⟨Ext.app _ _, ?_, ?_⟩
  · simp [AV.noRef, AV.noRefs, noRef_pend, noRef_at_, subPs, blobPs]
  · simp only [AV.strip, AV.strips, strip_sub, strip_at_]; exact hK _ hS
theorem rdBlob_c {s : List UInt8} {r : Rdr} {a : At} {σ : AST} {K : AV → AST → Prop} (hS : Sim s r a) (hK : ∀ b, Sim s r.blob.2 b → K (.tuple [blobV r.blob.1, at_V b]) σ) : TCalls Tryz.prog 52 [.str s, at_V a] σ K := by
  refine TCalls.drop ?_
  refine tcalls_walk Tryz.f52 _ [.cell 4 39, .cell 5 110] Tryz.func52 rfl rfl rfl mixed (Nat.le_of_ble_eq_true rfl) rfl fun hlen => ?_
  repeat' (simp -dsimp only [↓reduceIte, go_sem])
  refine refInt_c hS fun b hS => ?_
  repeat' (simp -dsimp only [↓reduceIte, go_sem])
  refine refInt_c hS fun b hS => ?_
  repeat' (simp -dsimp only [↓reduceIte, go_sem])
  refine refStr_c hS fun b hS => ?_
  repeat' (simp -dsimp only [↓reduceIte, go_sem])
  refine refDigest_c hS fun b hS => ?_
  repeat' (first | (simp -dsimp only [↓reduceIte, go_sem]) | (refine later_intro ⟨keeps_nil, ?_⟩) | (with_reducible refine (And.intro (a := keeps _ _ _) ?_ ?_); focus (first | (simp [keeps_cons, keeps_none, objs_app, objs_app0]; done) | fail)) | (with_reducible refine awp_drawU (id := 5) (.op 0 2 (.op 1 2 (.op 2 2 (.op 3 2 (.op 4 2 (.op 5 0 (.op 6 1 (.cut (.op 7 1 .nil))))))))) (by kernel_rfl) ?_) | fail)
  refine ⟨Ext.app _ _, ?_, ?_⟩
  · simp [AV.noRef, AV.noRefs, noRef_pend, noRef_at_, subPs, blobPs]
  · simp only [AV.strip, AV.strips, strip_blob, strip_at_]; exact hK _ hS
end Go.Aff.L10

