import Derived.Test.YtikbkaedemmpmaaGreatG18
import Derived.Test.YtikbkaedemmpmaaGreatG8

set_option linter.unusedSimpArgs false
set_option linter.unusedVariables false

namespace Go.Aff.L10
open Go.Proofs Go.Aff Go.Aff.L01 Classical
set_option maxRecDepth 20000
attribute [-go_sem] cellAt_new
attribute [-simp] List.length_flatMap
attribute [local go_sem] Tryz.underlying40 blobPs_0 blobAt_0 blobSet_0 blobPs_1 blobAt_1 blobSet_1 blobPs_2 blobAt_2 blobSet_2 sizes_blob shapes_blob fits_blob zero_blob zt_blob built_blob Tryz.underlying39 msgPs_0 msgAt_0 msgSet_0 msgPs_1 msgAt_1 msgSet_1 msgPs_8 msgAt_8 msgSet_8 msgPs_9 msgAt_9 sizes_msg shapes_msg fits_msg zero_msg zt_msg built_msg Tryz.underlying42
attribute [local go_sem] fits3 fits9 fits31
attribute [local go_sem] Tryz.underlying23 Tryz.underlying46
def bX : Blob := ⟨1, 5, [120], dig0⟩
def mA : Msg := { msg0 with kind := 4, blob := bX }
def mG : Msg := { msg0 with kind := 5, client := 1, nums := [5, 6] }
theorem sentL_eq {L : List (Tk × Tk × Msg)} : sentL L = ((L.map (·.2.2)).filter fun m => decide m.Ok).map Msg.bytes := by
  unfold sentL
  rw [List.filter_map, List.map_map]; rfl
theorem okA : mA.Ok := by
  refine ⟨?_, ?_, ?_⟩
  · simp [Msg.FieldsOk, mA, Blob.Ok, In, bX]
  · simp [In, mA, msg0]
  · simp [Msg.own_, mA, msg0]
theorem okF : (foundM bX).Ok := by
  refine ⟨?_, ?_, ?_⟩
  · simp [Msg.FieldsOk, foundM, Blob.Ok, In, bX]
  · simp [In, foundM, msg0]
  · simp [Msg.own_, foundM, msg0]
theorem nums2 : NumsOk [5, 6] := by
  refine ⟨fun i n h => ?_, by simp [In]⟩
  match i, h with
  | 0, h => simp at h; subst h; exact ⟨by simp [In], fun m h0 => by omega⟩
  | 1, h => simp at h; subst h; exact ⟨by simp [In], fun m _ h1 => by simp at h1; omega⟩
  | i + 2, h => simp at h
theorem nums1 : NumsOk [6] := by
  refine ⟨fun i n h => ?_, by simp [In]⟩
  match i, h with
  | 0, h => simp at h; subst h; exact ⟨by simp [In], fun m h0 => by omega⟩
  | i + 1, h => simp at h
theorem okG : mG.Ok := by
  refine ⟨?_, ?_, ?_⟩
  · simp [Msg.FieldsOk, mG, nums2]
  · simp [In, mG]
  · simp [Msg.own_, mG, msg0]
theorem okN2 : (noneM 1 [5, 6]).Ok := by
  refine ⟨?_, ?_, ?_⟩
  · simp [Msg.FieldsOk, noneM, nums2]
  · simp [In, noneM]
  · simp [Msg.own_, noneM, msg0]
theorem okN1 : (noneM 1 [6]).Ok := by
  refine ⟨?_, ?_, ?_⟩
  · simp [Msg.FieldsOk, noneM, nums1]
  · simp [In, noneM]
  · simp [Msg.own_, noneM, msg0]
theorem got0 {o n : Int} : bgot [] o n = none := rfl
theorem got5 : bgot [bX] 1 5 = some bX := by simp [bgot, bfind, isB, bX, List.findIdx?_cons]
theorem got6 : bgot [bX] 1 6 = none := by simp [bgot, bfind, isB, bX, List.findIdx?_cons]
theorem bX_rt : bX.Rt := by simp [Blob.Rt, bX]
theorem putX : bput [] bX = ([bX], 0) := by
  have hf : bfind [] 1 5 = none := rfl
  unfold bput
  rw [if_neg (fun h => h bX_rt)]
  simp [hf, usedN, usedB, bX]
theorem letters0 : lettersM [] mG = [noneM 1 [5, 6]] := by
  simp [lettersM, foundL, noneL, mG, got0]
theorem letters1 : lettersM [bX] mG = [foundM bX, noneM 1 [6]] := by
  simp [lettersM, foundL, noneL, mG, got5, got6]
theorem build_two {a b : Int} {KV : AV → Prop} (hK : KV (.slice .full ([a, b].map (AV.int .i64)))) : buildSliceW Tryz.prog 40 2 [(0, .int .i64 a), (1, .int .i64 b)] KV :=
  build_slice E45i rfl (by decide) (by intro v hv; simp at hv; rcases hv with rfl | rfl <;> simp [go_sem]) hK
theorem nth0 {α : Type} {a b : α} {K : α → Prop} (h : K a) : nthW [a, b] 0 K := ⟨by decide, by simp, fun x hx => by simp at hx; subst hx; exact h⟩
theorem nth1 {α : Type} {a b : α} {K : α → Prop} (h : K b) : nthW [a, b] 1 K := ⟨by decide, by simp, fun x hx => by simp at hx; subst hx; exact h⟩
theorem nth00 {α : Type} {a : α} {K : α → Prop} (h : K a) : nthW [a] 0 K := ⟨by decide, by simp, fun x hx => by simp at hx; subst hx; exact h⟩
theorem awake_c {σ : AST} {K : AV → AST → Prop} (hK : K (.bool true) σ) : TCalls Tryz.prog 8 [] σ K := by
  refine TCalls.drop ?_
  have fin : ∀ s', Ext σ s' → Ext σ s' ∧ (AV.bool true).noRef = true ∧ K (AV.bool true).strip σ := fun s' hx => ⟨hx, rfl, by simpa [AV.strip] using hK⟩
  have hfA : ({ kind := 4, client := msg0.client, sub := msg0.sub, rep := msg0.rep, view := msg0.view, by_ := msg0.by_, tag := msg0.tag, own := msg0.own, blob := { owner := 1, num := 5, cipher := [120], tag := blob0.tag }, nums := msg0.nums } : Msg) = mA := rfl
  have hfG : (msgPs Tk.full Tk.full ({ kind := 5, client := 1, sub := msg0.sub, rep := msg0.rep, view := msg0.view, by_ := msg0.by_, tag := msg0.tag, own := msg0.own, blob := msg0.blob, nums := msg0.nums } : Msg)).set 9 (.slice .full [.int .i64 5, .int .i64 6]) = msgPs Tk.full Tk.full mG := rfl
  have gA := get_back okA
  have gG := get_back okG
  have gF := get_back okF
  have gN := get_back okN1
  refine tcalls_walk Tryz.f8 _ [.tmp 0] Tryz.func8 rfl rfl rfl mixed (Nat.le_of_ble_eq_true rfl) rfl fun hlen => ?_
  repeat' (simp -dsimp only [↓reduceIte, go_sem])
  refine srvNew_c (n := 3) (by omega) (by omega) fun s1 q r j mi h0 => ?_
  have h1 := h0.f
  repeat' (simp -dsimp only [↓reduceIte, go_sem, hfA])
  refine put_c ?_
  rw [if_pos okA]
  repeat' (first | (simp -dsimp only [↓reduceIte, go_sem, hfG]) | (refine build_two ?_) | fail)
  refine put_c ?_
  rw [if_pos okG]
  repeat' (simp -dsimp only [↓reduceIte, go_sem])
  refine on_no h1 (by decide) (by decide) (by rw [gA]) (by rw [gA]; simp [mineB, mA, bX]) fun s2 hx2 => ?_
  have h2 := h1.ext hx2
  repeat' (simp -dsimp only [↓reduceIte, go_sem])
  refine on_get h2 (by decide) (by decide) (by rw [gG]) (by rw [gG]; simp [mineB, mG]) (by rw [gG]; rfl) (by rw [gG]; simp [mG]) fun s3 t3 L3 e3 hx3 => ?_
  rw [gG, letters0] at e3
  have l3 : sentL L3 = [(noneM 1 [5, 6]).bytes] := by rw [sentL_eq, e3]; simp [okN2]
  rw [l3]
  have h3 := h2.ext hx3
  repeat' (simp -dsimp only [↓reduceIte, go_sem])
  refine on_put h3 BOk.nil (by decide) (by decide) (by rw [gA]) (by rw [gA]; simp [mineB, mA, bX]) (by rw [gA]; rfl) fun s4 h4 => ?_
  rw [gA] at h4
  have e4 : (bput [] mA.blob).1 = [bX] := by rw [show mA.blob = bX from rfl, putX]
  rw [e4] at h4
  repeat' (simp -dsimp only [↓reduceIte, go_sem])
  refine on_get h4 (by decide) (by decide) (by rw [gG]) (by rw [gG]; simp [mineB, mG]) (by rw [gG]; rfl) (by rw [gG]; simp [mG]) fun s5 t5 L5 e5 hx5 => ?_
  rw [gG, letters1] at e5
  have l5 : sentL L5 = [(foundM bX).bytes, (noneM 1 [6]).bytes] := by rw [sentL_eq, e5]; simp [okF, okN1]
  rw [l5]
  have h5 := h4.ext hx5
  repeat' (first | (simp -dsimp only [↓reduceIte, go_sem]) | (refine arr_intro fun _ => ?_) | (refine guardV_split (fun h => ?_) (fun h => ?_) <;> (try rw [h]) <;> (try simp at h) <;> (try (exfalso; omega))) | fail)
  refine nth0 ?_
  repeat' (simp -dsimp only [↓reduceIte, go_sem])
  refine get_c fun t u => ?_
  rw [gF]
  repeat' (first | (simp -dsimp only [↓reduceIte, go_sem]) | (refine nth1 ?_) | fail)
  refine get_c fun t' u' => ?_
  rw [gN]
  have k1 : (foundM bX).kind = 6 := rfl
  have k2 : (foundM bX).blob.cipher = [120] := rfl
  have k3 : (noneM 1 [6]).kind = 7 := rfl
  have k4 : (noneM 1 [6]).nums = [6] := rfl
  repeat' (first | (simp -dsimp only [↓reduceIte, go_sem, k1, k2, k3, k4]) | (refine arr_intro fun _ => ?_) | (refine guardV_split (fun h => ?_) (fun h => ?_) <;> (try rw [h]) <;> (try simp at h) <;> (try (exfalso; omega))) | (refine nth00 ?_) | fail)
  exact fin _ (h5.x.trans (Ext.app _ _))
attribute [local go_sem] Tryz.underlying3 Tryz.underlying5
attribute [local go_sem] arrV_none arrV_some
attribute [local go_sem] actPs_1 actAt_1 sizes_act fits_act Tryz.underlying44 Tryz.underlying22
def IsAct13 (v : AV) : Prop := ∃ t u a, v = .agg (actPs t u a) ∧ Rng a.m.by_
structure Gd (M : Reg) (B : List Blob) (n : Int) : Prop where
  ok : M.Ok
  fine : M.Fine
  n : M.n = n
  b : BOk B
theorem Gd.start {n : Int} (h2 : 2 ≤ n) (h8 : n ≤ 8) : Gd (reg0 n) [] n := ⟨Reg.reg0_ok h2 h8, Reg.reg0_fine, rfl, BOk.nil⟩
theorem Gd.on {M : Reg} {B : List Blob} {n c : Int} {b : List UInt8} (h : Gd M B n) : Gd (onR M c b) (onB M B c b) n :=
  ⟨onR_ok h.ok, onR_fine h.ok h.fine, by rw [onR_n]; exact h.n, onB_ok h.b⟩
section
variable {K : AV → AST → Prop}
end
section
variable {K : AV → AST → Prop}
theorem lawBytes_d {σ0 s : AST} {A : Ads} {n : Int} {M N : Reg} {B C : List Blob} {F : List (Nat × AObj)} (hS : Sv σ0 s A n M N B C F) (hN : N.Ok) {a : Act13} {t u : Tk} {last : List UInt8} (hw : Rng a.m.by_) (hK : K (.str (bytesA N a last)) s) :
    TCalls Tryz.prog 10 [.ptr (some (A.x, [])), .agg (actPs t u a), .str last] s K := by
  refine TCalls.drop ?_
  exact lawBytes_c hS hN hw fun s' hx => ⟨hx, rfl, by simpa [AV.strip] using hK⟩
theorem serverApart_c {tl t u : Tk} {la : List AV} (hla : ∀ v ∈ la, IsAct13 v) {a : Act13} (hw : Rng a.m.by_) {o : Int} (ho0 : 0 ≤ o) (ho1 : o ≤ 255) {σ : AST} (hK : K (.bool true) σ) : TCalls Tryz.prog 5 [.slice tl la, .agg (actPs t u a), .int .u8 o] σ K := by
  refine TCalls.drop ?_
  have fin : ∀ s', Ext σ s' → Ext σ s' ∧ (AV.bool true).noRef = true ∧ K (AV.bool true).strip σ := fun s' hx => ⟨hx, rfl, by simpa [AV.strip] using hK⟩
  have ob0 : (σ.app [.cells (.agg (actPs t u a))]).objs[σ.objs.length]? = some (.cells (.agg (actPs t u a))) := by rw [objs_app0]; rfl
  refine tcalls_walk Tryz.f5 _ [.tmp 6] Tryz.func5 rfl rfl rfl mixed (Nat.le_of_ble_eq_true rfl) rfl fun hlen => ?_
  repeat' (simp -dsimp only [↓reduceIte, go_sem])
  have hmod : o.tmod 4 = o % 4 := Int.tmod_eq_emod_of_nonneg ho0
  have hwm : IntKind.i64.wrap (o.tmod 4) = o % 4 := by rw [hmod]; exact wrap_i64 (by omega) (by omega)
  have hp0 : 0 ≤ o % 4 := by omega
  have hp4 : o % 4 < 4 := by omega
  generalize o % 4 = p at hwm hp0 hp4
  generalize hs0 : σ.app [.cells (.agg (actPs t u a))] = s0 at *
  have hx0 : Ext σ s0 := hs0 ▸ Ext.app _ _
  refine srvNew_c (n := 4) (by omega) (by omega) fun s1 q j b mi h1 => ?_
  repeat' (simp -dsimp only [↓reduceIte, go_sem])
  refine refNew13_c (by omega) (by omega) h1 fun s2 A hAq hS => ?_
  subst hAq
  repeat' (first | (simp -dsimp only [↓reduceIte, go_sem, hwm]) | ((refine awake_c ?_)) | fail)
  refine awp_rounds (fun (i : Nat) τ s' => ∃ M B, i ≤ la.length ∧ i ≤ 40 ∧ Sv s0 s' A 4 M M B B [] ∧ Gd M B 4 ∧ τ 0 = .slice tl la ∧ τ 4 = .ptr (some (σ.objs.length, [])) ∧ τ 7 = .ptr (some (A.q, [])) ∧ τ 9 = .ptr (some (A.x, [])) ∧ τ 10 = .int .i64 p ∧ τ 11 = .int .i64 i) (fun i => 40 - i) 0 ?_ ?_
  · refine ⟨reg0 4, [], by omega, by omega, hS, Gd.start (by omega) (by omega), ?_, ?_, ?_, ?_, ?_, ?_⟩ <;> (try simp only [go_sem]) <;> (try rfl)
  · rintro i τ s' ⟨M, B, hi, hi5, hS, hG, t0, t4, t7, t9, t10, t11⟩
    by_cases hlt : i < la.length ∧ i < 40
    · have hlt1 : (i : Int) < la.length := by omega
      have hlt2 : (i : Int) < 40 := by omega
      have hb : la[i]? = some la[i] := List.getElem?_eq_getElem hlt.1
      obtain ⟨t', u', a', ha, hw'⟩ := hla _ (List.getElem_mem hlt.1)
      rw [ha] at hb
      have w1 : IntKind.i64.wrap ((i : Int) + 1) = (i : Int) + 1 := wrap_i64 (by omega) (by omega)
      repeat' (first | (simp -dsimp only [↓reduceIte, go_sem, t0, t4, t7, t9, t10, t11, hlt1, hlt2]) | (refine arr_intro fun _ => ?_) | (with_reducible refine awp_drawT (id := 9) (.op 0 2 (.op 1 2 (.op 2 2 (.op 3 2 (.op 4 2 (.op 5 2 (.op 6 2 (.op 7 2 (.op 8 2 (.op 9 2 (.op 10 2 (.op 11 3 (.op 12 1 .nil))))))))))))) (by kernel_rfl) ?_) | (refine nth_get hb ?_) | fail)
      refine lawBytes_d hS hG.ok hw' ?_
      repeat' (simp -dsimp only [↓reduceIte, go_sem, t0, t4, t7, t9, t10, t11])
      refine on_c hS hG.n hG.ok hG.b fun s4 tk L1 e1 h4 => ?_
      repeat' (first | (simp -dsimp only [↓reduceIte, go_sem, t0, t4, t7, t9, t10, t11]) | (refine later_intro ⟨keeps_nil, ?_⟩) | (with_reducible refine awp_drawT (id := 10) (.op 0 2 (.op 1 2 (.op 2 2 (.op 3 2 (.op 4 2 (.op 5 2 (.op 6 2 (.op 7 2 (.op 8 2 (.op 9 2 (.op 10 2 (.op 11 3 (.op 12 1 .nil))))))))))))) (by kernel_rfl) ?_) | (refine nth_get hb ?_) | fail)
      refine lawBytes_d h4 hG.ok hw' ?_
      repeat' (simp -dsimp only [↓reduceIte, go_sem, t0, t4, t7, t9, t10, t11])
      refine refOn_c h4 hG.ok hG.b fun s6 tk2 L2 e2 h6 => ?_
      repeat' (first | (simp -dsimp only [↓reduceIte, go_sem, t0, t4, t7, t9, t10, t11, w1]) | (refine later_intro ⟨keeps_nil, ?_⟩) | fail)
      refine later_intro ⟨i + 1, by omega, _, _, by omega, by omega, h6, hG.on, ?_, ?_, ?_, ?_, ?_, ?_⟩ <;> (try simp only [go_sem, t0, t4, t7, t9, t10, t11]) <;> (try rfl)
    · have hlt' : (¬ (i : Int) < la.length ∧ True) ∨ ((i : Int) < la.length ∧ ¬ (i : Int) < 40) := by
        by_cases h : (i : Int) < la.length
        · exact .inr ⟨h, by omega⟩
        · exact .inl ⟨h, trivial⟩
      have oa := ext_known hS.ext0 ob0
      have ca := cellAt_known oa
      by_cases hc : a.client = p
      · have hc1 : (a.client == p) = true := by simp [hc]
        rcases hlt' with ⟨hlt1, hlt2⟩ | ⟨hlt1, hlt2⟩
        all_goals
          repeat' (first | (simp -dsimp only [↓reduceIte, go_sem, t0, t4, t7, t9, t10, t11, hlt1, hlt2, ca, hc1]) | (refine arr_intro fun _ => ?_) | fail)
          exact fin _ (hx0.trans hS.ext0)
      · have hc1 : (a.client == p) = false := by simp [hc]
        have hn := hG.n
        have hp : M.has p := ⟨hp0, by omega⟩
        rcases hlt' with ⟨hlt1, hlt2⟩ | ⟨hlt1, hlt2⟩
        all_goals
          repeat' (first | (simp -dsimp only [↓reduceIte, go_sem, t0, t4, t7, t9, t10, t11, hlt1, hlt2, ca, hc1]) | (refine arr_intro fun _ => ?_) | ((refine svRegs_c hS ?_)) | ((refine svBlobs_c hS ?_)) | ((refine svNumber_c hS hG.ok hp ?_)) | ((refine svView_c hS hG.ok hp ?_)) | ((refine snum_c hS.t.p hG.b ?_)) | fail)
          repeat' (first | (simp -dsimp only [↓reduceIte, go_sem, t0, t4, t7, t9, t10, t11, ca]) | (with_reducible refine awp_drawT (id := 14) (.op 0 2 (.op 1 2 (.op 2 2 (.op 3 2 (.op 4 2 (.op 5 3 (.op 6 1 .nil))))))) (by kernel_rfl) ?_) | fail)
          refine lawBytes_d hS hG.ok hw ?_
          repeat' (simp -dsimp only [↓reduceIte, go_sem, t0, t4, t7, t9, t10, t11, ca])
          refine on_c hS hG.n hG.ok hG.b fun s5 tk L1 e1 h5 => ?_
          have hG5 := hG.on (c := a.client) (b := bytesA M a [])
          have k1 := onR_other (b := bytesA M a []) hG.ok hp (Ne.symm hc)
          have k2 := onB_other (M := M) (B := B) (b := bytesA M a []) (Ne.symm hc)
          have hp5 : (onR M a.client (bytesA M a [])).has p := by unfold Reg.has; rw [onR_n]; exact hp
          have d1 : ((M.cli p).last.num == (M.cli p).last.num) = true := by simp
          have d2 : ((M.cli p).view == (M.cli p).view) = true := by simp
          have d3 : decide (numsB B p = numsB B p) = true := decide_eq_true rfl
          repeat' (first | (simp -dsimp only [↓reduceIte, go_sem, t0, t4, t7, t9, t10, t11, k1, k2, d1, d2, d3]) | (refine later_intro ⟨keeps_nil, ?_⟩) | ((refine svRegs_c h5 ?_)) | ((refine svBlobs_c h5 ?_)) | ((refine svNumber_c h5 hG5.ok hp5 ?_)) | ((refine svView_c h5 hG5.ok hp5 ?_)) | ((refine snum_c h5.t.p hG5.b ?_)) | ((refine ints_c ?_)) | fail)
          exact fin _ (hx0.trans h5.ext0)
end

theorem sh_ints {n : Nat} {v : AV} (h : ShT Tryz.prog (n + 2) 40 v) : ∃ (tk : Tk) (l : List Int), v = .slice tk (l.map (AV.int .i64)) := by
  obtain ⟨tk, xs, rfl, e⟩ := sh_slice (n := n + 1) (t := 40) Tryz.underlying40 h
  obtain ⟨l, rfl, _⟩ := map_of (f := AV.int .i64) (p := fun _ => True) (fun x hx => by obtain ⟨i, rfl, _, _⟩ := sh_int (n := n) (t := 3) Tryz.underlying3 (e x hx); exact ⟨i, rfl, trivial⟩)
  exact ⟨tk, l, rfl⟩
theorem sh_pend {n : Nat} {v : AV} (h : ShT Tryz.prog (n + 9) 138 v) : ∃ y : Pend, v = pendV y ∧ True := by
  obtain ⟨ps, rfl, hps⟩ := sh_struct (n := n + 8) Tryz.underlying138 h
  obtain ⟨p0, r, rfl, h0, hps⟩ := shTs_cons (n := n + 7) hps
  obtain ⟨p1, r, rfl, h1, hps⟩ := shTs_cons (n := n + 6) hps
  obtain ⟨p2, r, rfl, h2, hps⟩ := shTs_cons (n := n + 5) hps
  obtain ⟨p3, r, rfl, h3, hps⟩ := shTs_cons (n := n + 4) hps
  obtain ⟨p4, r, rfl, h4, hps⟩ := shTs_cons (n := n + 3) hps
  obtain ⟨p5, r, rfl, h5, hps⟩ := shTs_cons (n := n + 2) hps
  obtain rfl := shTs_nil hps
  obtain ⟨a, rfl, _, _⟩ := sh_int (t := 3) Tryz.underlying3 h0
  obtain ⟨b, rfl, _, _⟩ := sh_int (t := 3) Tryz.underlying3 h1
  obtain ⟨c, rfl, _, _⟩ := sh_int (t := 3) Tryz.underlying3 h2
  obtain ⟨d, rfl, _, _⟩ := sh_int (t := 3) Tryz.underlying3 h3
  obtain ⟨e, rfl⟩ := sh_dig (t := 32) Tryz.underlying32 h4
  obtain ⟨f, rfl⟩ := sh_dig (t := 32) Tryz.underlying32 h5
  exact ⟨⟨a, b, c, d, e, f⟩, rfl, trivial⟩
theorem sh_sub {n : Nat} {v : AV} (h : ShT Tryz.prog (n + 9) 34 v) : ∃ y : Sub, v = subV y := by
  obtain ⟨ps, rfl, hps⟩ := sh_struct (n := n + 8) Tryz.underlying34 h
  obtain ⟨p0, r, rfl, h0, hps⟩ := shTs_cons (n := n + 7) hps
  obtain ⟨p1, r, rfl, h1, hps⟩ := shTs_cons (n := n + 6) hps
  obtain ⟨p2, r, rfl, h2, hps⟩ := shTs_cons (n := n + 5) hps
  obtain ⟨p3, r, rfl, h3, hps⟩ := shTs_cons (n := n + 4) hps
  obtain ⟨p4, r, rfl, h4, hps⟩ := shTs_cons (n := n + 3) hps
  obtain ⟨p5, r, rfl, h5, hps⟩ := shTs_cons (n := n + 2) hps
  obtain rfl := shTs_nil hps
  obtain ⟨a, rfl, _, _⟩ := sh_int (t := 3) Tryz.underlying3 h0
  obtain ⟨b, rfl, _, _⟩ := sh_int (t := 3) Tryz.underlying3 h1
  obtain ⟨c, rfl, _, _⟩ := sh_int (t := 3) Tryz.underlying3 h2
  obtain ⟨d, rfl⟩ := sh_str (t := 9) Tryz.underlying9 h3
  obtain ⟨e, rfl⟩ := sh_dig (t := 32) Tryz.underlying32 h4
  obtain ⟨f, rfl⟩ := sh_dig (t := 32) Tryz.underlying32 h5
  exact ⟨⟨a, b, c, d, e, f⟩, rfl⟩
theorem sh_blob {n : Nat} {v : AV} (h : ShT Tryz.prog (n + 9) 39 v) : ∃ y : Blob, v = blobV y := by
  obtain ⟨ps, rfl, hps⟩ := sh_struct (n := n + 8) Tryz.underlying39 h
  obtain ⟨p0, r, rfl, h0, hps⟩ := shTs_cons (n := n + 7) hps
  obtain ⟨p1, r, rfl, h1, hps⟩ := shTs_cons (n := n + 6) hps
  obtain ⟨p2, r, rfl, h2, hps⟩ := shTs_cons (n := n + 5) hps
  obtain ⟨p3, r, rfl, h3, hps⟩ := shTs_cons (n := n + 4) hps
  obtain rfl := shTs_nil hps
  obtain ⟨a, rfl, _, _⟩ := sh_int (t := 3) Tryz.underlying3 h0
  obtain ⟨b, rfl, _, _⟩ := sh_int (t := 3) Tryz.underlying3 h1
  obtain ⟨c, rfl⟩ := sh_str (t := 9) Tryz.underlying9 h2
  obtain ⟨e, rfl⟩ := sh_dig (t := 32) Tryz.underlying32 h3
  exact ⟨⟨a, b, c, e⟩, rfl⟩
theorem sh_rep {n : Nat} {v : AV} (h : ShT Tryz.prog (n + 18) 37 v) : ∃ (t : Tk) (y : Rep), v = repV t y := by
  obtain ⟨ps, rfl, hps⟩ := sh_struct (n := n + 17) Tryz.underlying37 h
  obtain ⟨p0, r, rfl, h0, hps⟩ := shTs_cons (n := n + 16) hps
  obtain ⟨p1, r, rfl, h1, hps⟩ := shTs_cons (n := n + 15) hps
  obtain ⟨p2, r, rfl, h2, hps⟩ := shTs_cons (n := n + 14) hps
  obtain ⟨p3, r, rfl, h3, hps⟩ := shTs_cons (n := n + 13) hps
  obtain ⟨p4, r, rfl, h4, hps⟩ := shTs_cons (n := n + 12) hps
  obtain ⟨p5, r, rfl, h5, hps⟩ := shTs_cons (n := n + 11) hps
  obtain ⟨p6, r, rfl, h6, hps⟩ := shTs_cons (n := n + 10) hps
  obtain ⟨p7, r, rfl, h7, hps⟩ := shTs_cons (n := n + 9) hps
  obtain ⟨p8, r, rfl, h8, hps⟩ := shTs_cons (n := n + 8) hps
  obtain ⟨p9, r, rfl, h9, hps⟩ := shTs_cons (n := n + 7) hps
  obtain rfl := shTs_nil hps
  obtain ⟨a, rfl, _, _⟩ := sh_int (t := 3) Tryz.underlying3 h0
  obtain ⟨b, rfl, _, _⟩ := sh_int (t := 3) Tryz.underlying3 h1
  obtain ⟨c, rfl⟩ := sh_str (t := 9) Tryz.underlying9 h2
  obtain ⟨d, rfl⟩ := sh_dig (t := 32) Tryz.underlying32 h3
  obtain ⟨tk, xs, rfl, e⟩ := sh_slice (n := n + 11) (t := 35) Tryz.underlying35 h4
  obtain ⟨l, rfl, _⟩ := map_of (f := pendV) (p := fun _ => True) (fun x hx => sh_pend (n := n + 2) (e x hx))
  obtain ⟨f, rfl, _, _⟩ := sh_int (t := 3) Tryz.underlying3 h5
  obtain ⟨g, rfl⟩ := sh_str (t := 9) Tryz.underlying9 h6
  obtain ⟨k, rfl⟩ := sh_dig (t := 32) Tryz.underlying32 h7
  obtain ⟨i, rfl⟩ := sh_str (t := 9) Tryz.underlying9 h8
  obtain ⟨j, rfl⟩ := sh_dig (t := 32) Tryz.underlying32 h9
  exact ⟨tk, ⟨a, b, c, d, l, f, g, k, i, j⟩, rfl⟩
theorem sh_msg {n : Nat} {v : AV} (h : ShT Tryz.prog (n + 30) 42 v) : ∃ (t u : Tk) (m : Msg), v = msgV t u m ∧ Rng m.by_ := by
  obtain ⟨ps, rfl, hps⟩ := sh_struct (n := n + 29) Tryz.underlying42 h
  obtain ⟨p0, r, rfl, h0, hps⟩ := shTs_cons (n := n + 28) hps
  obtain ⟨p1, r, rfl, h1, hps⟩ := shTs_cons (n := n + 27) hps
  obtain ⟨p2, r, rfl, h2, hps⟩ := shTs_cons (n := n + 26) hps
  obtain ⟨p3, r, rfl, h3, hps⟩ := shTs_cons (n := n + 25) hps
  obtain ⟨p4, r, rfl, h4, hps⟩ := shTs_cons (n := n + 24) hps
  obtain ⟨p5, r, rfl, h5, hps⟩ := shTs_cons (n := n + 23) hps
  obtain ⟨p6, r, rfl, h6, hps⟩ := shTs_cons (n := n + 22) hps
  obtain ⟨p7, r, rfl, h7, hps⟩ := shTs_cons (n := n + 21) hps
  obtain ⟨p8, r, rfl, h8, hps⟩ := shTs_cons (n := n + 20) hps
  obtain ⟨p9, r, rfl, h9, hps⟩ := shTs_cons (n := n + 19) hps
  obtain rfl := shTs_nil hps
  obtain ⟨a, rfl, _, _⟩ := sh_int (t := 3) Tryz.underlying3 h0
  obtain ⟨b, rfl, _, _⟩ := sh_int (t := 3) Tryz.underlying3 h1
  obtain ⟨c, rfl⟩ := sh_sub (n := n + 17) h2
  obtain ⟨t, d, rfl⟩ := sh_rep (n := n + 7) h3
  obtain ⟨e, rfl⟩ := sh_str (t := 9) Tryz.underlying9 h4
  obtain ⟨f, rfl, f1, f2⟩ := sh_int (t := 3) Tryz.underlying3 h5
  obtain ⟨g, rfl⟩ := sh_dig (t := 32) Tryz.underlying32 h6
  obtain ⟨k, rfl⟩ := sh_dig (t := 32) Tryz.underlying32 h7
  obtain ⟨i, rfl⟩ := sh_blob (n := n + 11) h8
  obtain ⟨u, l, rfl⟩ := sh_ints (n := n + 17) h9
  exact ⟨t, u, ⟨a, b, c, d, e, f, g, k, i, l⟩, rfl, f1, f2⟩
theorem sh_act13 {n : Nat} {v : AV} (h : ShT Tryz.prog (n + 35) 44 v) : IsAct13 v := by
  obtain ⟨ps, rfl, hps⟩ := sh_struct (n := n + 34) Tryz.underlying44 h
  obtain ⟨p0, r, rfl, h0, hps⟩ := shTs_cons (n := n + 33) hps
  obtain ⟨p1, r, rfl, h1, hps⟩ := shTs_cons (n := n + 32) hps
  obtain ⟨p2, r, rfl, h2, hps⟩ := shTs_cons (n := n + 31) hps
  obtain ⟨p3, r, rfl, h3, hps⟩ := shTs_cons (n := n + 30) hps
  obtain rfl := shTs_nil hps
  obtain ⟨a, rfl, _, _⟩ := sh_int (t := 3) Tryz.underlying3 h0
  obtain ⟨b, rfl, _, _⟩ := sh_int (t := 3) Tryz.underlying3 h1
  obtain ⟨c, rfl⟩ := sh_str (t := 9) Tryz.underlying9 h2
  obtain ⟨t, u, m, rfl, hm⟩ := sh_msg (n := n) h3
  exact ⟨t, u, ⟨a, b, c, m⟩, rfl, hm⟩
theorem sh_acts13 {v : AV} (h : ShT Tryz.prog 51 22 v) : ∃ tk la, v = .slice tk la ∧ ∀ v ∈ la, IsAct13 v := by
  obtain ⟨tk, xs, rfl, e⟩ := sh_slice (n := 50) (t := 22) Tryz.underlying22 h
  exact ⟨tk, xs, rfl, fun v hv => sh_act13 (n := 15) (e v hv)⟩
end Go.Aff.L10

