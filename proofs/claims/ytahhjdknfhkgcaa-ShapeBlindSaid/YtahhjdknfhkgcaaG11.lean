import Derived.Test.YtahhjdknfhkgcaaG10

set_option linter.unusedSimpArgs false
set_option linter.unusedVariables false

namespace Go.Aff.L10
open Go.Proofs Go.Aff Go.Aff.L01 Classical
set_option maxRecDepth 20000
attribute [local go_sem] push_app app_app length_app cellAt_app cellAt_app0 set_app set_app0 objs_app objs_app0 List.cons_append List.nil_append List.length_cons List.length_nil List.getElem?_cons_zero List.getElem?_cons_succ List.set_cons_zero List.set_cons_succ List.length_map
attribute [-go_sem] cellAt_new
attribute [-simp] List.length_flatMap
attribute [local go_sem] Try.underlying9 Try.underlying50
attribute [local go_sem] fits3 fits9 fits31
attribute [local go_sem ↓] blockQ_exit2
attribute [local go_sem] vnPs_0 vnPs_1 vnPs_2 vnPs_3 vnSet_0 vnSet_1 vnSet_2 vnSet_3 vnAt_0 vnAt_1 vnAt_2 vnAt_3 zero_vn zt_vn built_vn fits177 fits172 voAt zero174 zt174 built174 Try.underlying172 Try.underlying174 Try.underlying176 Try.underlying177 Try.underlying179
attribute [local go_sem] ndPs_0 ndAt_0 ndPs_1 ndAt_1 ndPs_2 ndAt_2 ndPs_3 ndAt_3 ndPs_4 ndAt_4 sizes_nd shapes_nd fits_nd zero_nd zt_nd Try.underlying102 Try.underlying52 Try.underlying43 fits43
open Go.Aff.L31
def blkV (n : Nat) : Nat := (n + 31) / 32
theorem blocks_c {n : Nat} {s : AST} {K : AV → AST → Prop} (hn : n ≤ 1000000) (hK : K (.int .i64 (blkV n)) s) : TCalls Try.prog 118 [.int .i64 n] s K := by
  refine tcalls_walk Try.f118 _ [.tmp 2] Try.func118 rfl rfl rfl mixed (Nat.le_of_ble_eq_true rfl) rfl fun hlen => ?_
  repeat' (first | (simp -dsimp only [↓reduceIte, go_sem]) | (refine arr_intro fun _ => ?_) | (refine later_intro ⟨keeps_nil, ?_⟩) | (refine later_intro ⟨keeps_refl, ?_⟩) | (with_reducible refine keeps_go ?_ ?_; focus (first | (simp [keeps_cons, keeps_none, objs_app, objs_app0]; done) | (simp only [keeps_cons, keeps_none, objs_app0, objs_app, and_true]; first | rfl | exact ⟨rfl, rfl⟩ | exact ⟨rfl, rfl, rfl⟩))) | (with_reducible refine (And.intro (a := keeps _ _ _) ?_ ?_); focus (first | (simp [keeps_cons, keeps_none, objs_app, objs_app0]; done) | (simp only [keeps_cons, keeps_none, objs_app0, objs_app, and_true]; first | rfl | exact ⟨rfl, rfl⟩ | exact ⟨rfl, rfl, rfl⟩))) | (refine both_ways ?_ ?_) | (rw [wrap_i64 (by omega) (by omega)]) | (refine guardV_split (fun h => ?_) (fun h => ?_) <;> (try rw [h]) <;> (try simp at h) <;> (try (exfalso; omega))))
  rw [wrap64 (n := (n : Int) + 32) (by omega) (by omega), wrap64 (n := (n : Int) + 32 - 1) (by omega) (by omega), show ((n : Int) + 32 - 1) = ((n + 31 : Nat) : Int) by omega, show Int.tdiv ((n + 31 : Nat) : Int) 32 = (((n + 31) / 32 : Nat) : Int) from tdiv_nat (n + 31) 32, wrap64 (by omega) (by omega)]
  exact hK
section
variable {σ0 s : AST} {j mi : Nat} {Ns : List VN} {lk : Int → Nat} {F : List (Nat × AObj)} {K : AV → AST → Prop}
def szK (Ns : List VN) (f : VN → Nat) (k : Nat) : Nat := match Ns.find? (fun n => n.kn == k) with
  | some n => f n
  | none => 0
theorem szK_of (h : (Ns.map (·.kn)).Nodup) {f : VN → Nat} {n : VN} (hn : n ∈ Ns) : szK Ns f n.kn = f n := by
  unfold szK
  cases hf : Ns.find? (fun x => x.kn == n.kn) with
  | none =>
    have := List.find?_eq_none.1 hf n hn
    simp at this
  | some p =>
    have hp := List.mem_of_find?_eq_some hf
    have he := List.find?_some hf
    simp at he
    rw [mem_inj h hp hn he]
theorem szK_le {f : VN → Nat} {b : Nat} (hf : ∀ n ∈ Ns, f n ≤ b) (k : Nat) : szK Ns f k ≤ b := by
  unfold szK
  split
  · exact hf _ (List.mem_of_find?_eq_some ‹_›)
  · exact Nat.zero_le _
def totK (Ns : List VN) (f : VN → Nat) (D : List (Nat × Int × Nat)) : Nat := (D.map fun e => szK Ns f e.2.2).sum
theorem totK_le {f : VN → Nat} {b : Nat} (hf : ∀ n ∈ Ns, f n ≤ b) : ∀ D, totK Ns f D ≤ D.length * b
  | [] => by simp [totK]
  | e :: D => by
    have ih := totK_le hf D
    have := szK_le hf e.2.2
    simp only [totK, List.map_cons, List.sum_cons, List.length_cons, Nat.add_mul] at ih ⊢
    omega
theorem totK_add {f : VN → Nat} {D : List (Nat × Int × Nat)} {e : Nat × Int × Nat} : totK Ns f (D ++ [e]) = totK Ns f D + szK Ns f e.2.2 := by simp [totK]
theorem totK_all (h : (Ns.map (·.kn)).Nodup) {f : VN → Nat} {D E : List (Nat × Int × Nat)} (hp : D.Perm E) (hE : E.map (·.2) = Ns.map (fun n => (n.num, n.kn))) : totK Ns f D = (Ns.map f).sum := by
  have h1 : totK Ns f D = totK Ns f E := (hp.map _).sum_nat
  have h2 : totK Ns f E = (((E.map (·.2)).map fun x => szK Ns f x.2)).sum := by unfold totK; rw [List.map_map]; rfl
  rw [h1, h2, hE, List.map_map]
  congr 1
  exact List.map_congr_left fun n hn => szK_of h hn
theorem used_c (h : VF σ0 s j mi Ns lk F) (hN : Ns.length ≤ 100) (hd : ∀ n ∈ Ns, n.data.length ≤ 1000) (hK : ∀ s', VF σ0 s' j mi Ns lk F → K (.int .i64 ((Ns.map fun n => blkV n.data.length).sum : Nat)) s') :
    TCalls Try.prog 105 [.ptr (some (j, []))] s K := by
  obtain ⟨E, ck, m1, m2, m3, m4⟩ := h.m
  have hj := cellAt_known h.o
  have hEN : E.length = Ns.length := by have := congrArg List.length m2; simpa using this
  have hfb : ∀ n ∈ Ns, blkV n.data.length ≤ 1000 := fun n hn => by have := hd n hn; unfold blkV; omega
  refine tcalls_walk Try.f105 _ [.tmp 2] Try.func105 rfl rfl rfl mixed (Nat.le_of_ble_eq_true rfl) rfl fun hlen => ?_
  repeat' (first | (simp -dsimp only [↓reduceIte, go_sem, hj]) | (refine arr_intro fun _ => ?_) | (refine later_intro ⟨keeps_nil, ?_⟩) | (refine later_intro ⟨keeps_refl, ?_⟩) | (with_reducible refine keeps_go ?_ ?_; focus (first | (simp [keeps_cons, keeps_none, objs_app, objs_app0]; done) | (simp only [keeps_cons, keeps_none, objs_app0, objs_app, and_true]; first | rfl | exact ⟨rfl, rfl⟩ | exact ⟨rfl, rfl, rfl⟩))) | (with_reducible refine (And.intro (a := keeps _ _ _) ?_ ?_); focus (first | (simp [keeps_cons, keeps_none, objs_app, objs_app0]; done) | (simp only [keeps_cons, keeps_none, objs_app0, objs_app, and_true]; first | rfl | exact ⟨rfl, rfl⟩ | exact ⟨rfl, rfl, rfl⟩))) | (refine both_ways ?_ ?_) | (rw [wrap_i64 (by omega) (by omega)]) | (refine guardV_split (fun h => ?_) (fun h => ?_) <;> (try rw [h]) <;> (try simp at h) <;> (try (exfalso; omega))))
  refine ⟨⟨3, 176, Try.underlying172⟩, ?_⟩
  simp only [m1]
  intro l b
  repeat' (first | (simp -dsimp only [↓reduceIte, go_sem]) | (refine arr_intro fun _ => ?_) | (refine later_intro ⟨keeps_nil, ?_⟩) | (refine later_intro ⟨keeps_refl, ?_⟩) | (with_reducible refine keeps_go ?_ ?_; focus (first | (simp [keeps_cons, keeps_none, objs_app, objs_app0]; done) | (simp only [keeps_cons, keeps_none, objs_app0, objs_app, and_true]; first | rfl | exact ⟨rfl, rfl⟩ | exact ⟨rfl, rfl, rfl⟩))) | (with_reducible refine (And.intro (a := keeps _ _ _) ?_ ?_); focus (first | (simp [keeps_cons, keeps_none, objs_app, objs_app0]; done) | (simp only [keeps_cons, keeps_none, objs_app0, objs_app, and_true]; first | rfl | exact ⟨rfl, rfl⟩ | exact ⟨rfl, rfl, rfl⟩))) | (refine both_ways ?_ ?_) | (rw [wrap_i64 (by omega) (by omega)]) | (refine guardV_split (fun h => ?_) (fun h => ?_) <;> (try rw [h]) <;> (try simp at h) <;> (try (exfalso; omega))))
  have hbx := h.box (iterO l b mi ck #[] ck)
  have hl4 := h.lts
  have hle : σ0.objs.length ≤ s.objs.length := by obtain ⟨O, T, rfl⟩ := h.x; simp
  have hmx : (s.app [iterO l b mi ck #[] ck]).objs[mi]? = some (.map (E.map entI) ck) := ext_knownV (Ext.app _ _) m1
  generalize hk0 : s.objs.length = k0 at *
  generalize s.app [iterO l b mi ck #[] ck] = s0 at hbx hmx ⊢
  refine awp_rounds (fun (i : Nat) τ s' => ∃ (D : List (Nat × Int × Nat)) (last : Nat), D.length = i ∧ Seen E D ∧ ck ≤ last ∧ VF σ0 s' j mi Ns lk ((k0, iterO l b mi ck (D.map (·.1)).toArray last) :: F) ∧ s'.objs[mi]? = some (.map (E.map entI) ck) ∧ τ 0 = .ptr (some (j, [])) ∧ τ 3 = .int .i64 (totK Ns (fun n => blkV n.data.length) D : Nat) ∧ τ 10 = .ptr (some (k0, []))) (fun i => E.length - i) 0 ?_ ?_
  · refine ⟨[], ck, rfl, Seen.nil, Nat.le_refl _, hbx, hmx, ?_, ?_, ?_⟩ <;> (try simp only [go_sem]) <;> (try rfl)
  · rintro i τ s' ⟨D, last, hDl, hD, hla, hV, hm', t0, t3, t10⟩
    have hit := (hV.f _ (List.mem_cons_self ..)).1
    dsimp only at hit
    repeat' (first | (simp -dsimp only [↓reduceIte, go_sem, t0, t3, t10]) | (refine arr_intro fun _ => ?_) | (refine later_intro ⟨keeps_nil, ?_⟩) | (refine later_intro ⟨keeps_refl, ?_⟩) | (with_reducible refine keeps_go ?_ ?_; focus (first | (simp [keeps_cons, keeps_none, objs_app, objs_app0]; done) | (simp only [keeps_cons, keeps_none, objs_app0, objs_app, and_true]; first | rfl | exact ⟨rfl, rfl⟩ | exact ⟨rfl, rfl, rfl⟩))) | (with_reducible refine (And.intro (a := keeps _ _ _) ?_ ?_); focus (first | (simp [keeps_cons, keeps_none, objs_app, objs_app0]; done) | (simp only [keeps_cons, keeps_none, objs_app0, objs_app, and_true]; first | rfl | exact ⟨rfl, rfl⟩ | exact ⟨rfl, rfl, rfl⟩))) | (refine both_ways ?_ ?_) | (rw [wrap_i64 (by omega) (by omega)]) | (refine guardV_split (fun h => ?_) (fun h => ?_) <;> (try rw [h]) <;> (try simp at h) <;> (try (exfalso; omega))))
    refine ⟨rfl, k0, l, b, mi, ck, _, last, _, _, rfl, hit, hm', ?_, hla, fun e he hne => ?_, fun hall => ?_⟩
    · intro e he
      obtain ⟨x, hx, rfl⟩ := List.mem_map.1 he
      exact m3 x hx
    · obtain ⟨e, he0, rfl⟩ := List.mem_map.1 he
      have hne' : ¬ e.1 ∈ D.map (·.1) := by simpa [entI, entG] using hne
      have hD' := hD.add he0 hne'
      have hl2 := hD'.len m4
      rw [List.length_append] at hl2
      simp only [List.length_singleton] at hl2
      have hV2 := hV.setF (o' := iterO l b mi ck ((D.map (·.1)).toArray.push (entI e).1) ck) hle (fun y hy => by have := hl4.2.2.2 y hy; omega)
      have om : (s'.set k0 (iterO l b mi ck ((D.map (·.1)).toArray.push (entI e).1) ck)).objs[mi]? = some (.map (E.map entI) ck) := by rw [objs_setNV (by omega)]; exact hm'
      generalize hs2 : s'.set k0 (iterO l b mi ck ((D.map (·.1)).toArray.push (entI e).1) ck) = s2 at hV2 om
      have oit := (hV2.f _ (List.mem_cons_self ..)).1
      dsimp only at oit
      repeat' (first | (simp -dsimp only [↓reduceIte, go_sem, t0, t3, t10, hs2]) | (refine arr_intro fun _ => ?_) | (refine later_intro ⟨keeps_nil, ?_⟩) | (refine later_intro ⟨keeps_refl, ?_⟩) | (with_reducible refine keeps_go ?_ ?_; focus (first | (simp [keeps_cons, keeps_none, objs_app, objs_app0]; done) | (simp only [keeps_cons, keeps_none, objs_app0, objs_app, and_true]; first | rfl | exact ⟨rfl, rfl⟩ | exact ⟨rfl, rfl, rfl⟩))) | (with_reducible refine (And.intro (a := keeps _ _ _) ?_ ?_); focus (first | (simp [keeps_cons, keeps_none, objs_app, objs_app0]; done) | (simp only [keeps_cons, keeps_none, objs_app0, objs_app, and_true]; first | rfl | exact ⟨rfl, rfl⟩ | exact ⟨rfl, rfl, rfl⟩))) | (refine both_ways ?_ ?_) | (rw [wrap_i64 (by omega) (by omega)]) | (refine guardV_split (fun h => ?_) (fun h => ?_) <;> (try rw [h]) <;> (try simp at h) <;> (try (exfalso; omega))))
      refine ⟨k0, l, b, mi, ck, (D.map (·.1)).toArray, _, entI e, ck, rfl, oit, om, he, ?_⟩
      have k2 : (entI e).2.2 = .ptr (some (e.2.2, [])) := rfl
      have hmE : e.2 ∈ Ns.map (fun n => (n.num, n.kn)) := by rw [← m2]; exact List.mem_map.2 ⟨e, he0, rfl⟩
      obtain ⟨n, hn2, en⟩ := List.mem_map.1 hmE
      have ek : e.2.2 = n.kn := by rw [← en]
      rw [ek] at k2
      have hn3 := hV2.n n hn2
      have cn3 := cellAt_known hn3
      have htl := totK_le hfb D
      have hfn := hfb n hn2
      have hdl := hd n hn2
      have htl2 : totK Ns (fun n => blkV n.data.length) D ≤ 100 * 1000 := Nat.le_trans htl (Nat.mul_le_mul_right _ (by omega))
      repeat' (first | (simp -dsimp only [↓reduceIte, go_sem, t0, t3, t10, k2, cn3]) | (refine arr_intro fun _ => ?_) | (refine later_intro ⟨keeps_nil, ?_⟩) | (refine later_intro ⟨keeps_refl, ?_⟩) | (with_reducible refine keeps_go ?_ ?_; focus (first | (simp [keeps_cons, keeps_none, objs_app, objs_app0]; done) | (simp only [keeps_cons, keeps_none, objs_app0, objs_app, and_true]; first | rfl | exact ⟨rfl, rfl⟩ | exact ⟨rfl, rfl, rfl⟩))) | (with_reducible refine (And.intro (a := keeps _ _ _) ?_ ?_); focus (first | (simp [keeps_cons, keeps_none, objs_app, objs_app0]; done) | (simp only [keeps_cons, keeps_none, objs_app0, objs_app, and_true]; first | rfl | exact ⟨rfl, rfl⟩ | exact ⟨rfl, rfl, rfl⟩))) | (refine both_ways ?_ ?_) | (rw [wrap_i64 (by omega) (by omega)]) | (refine guardV_split (fun h => ?_) (fun h => ?_) <;> (try rw [h]) <;> (try simp at h) <;> (try (exfalso; omega))) | ((refine blocks_c (by omega) ?_)))
      have hita : (D.map (·.1)).toArray.push (entI e).1 = ((D ++ [e]).map (·.1)).toArray := by simp [entI, entG]
      rw [hita] at hV2
      refine later_intro ⟨i + 1, by omega, D ++ [e], ck, by simp [hDl], hD', Nat.le_refl _, hV2, om, ?_, ?_, ?_⟩ <;> (try simp only [go_sem, t0, t3, t10]) <;> (try rfl)
      rw [totK_add, ek, szK_of h.kd hn2, Int.natCast_add]
    · have hperm := hD.all m4 fun e he => by
        have := hall (entI e) (List.mem_map_of_mem he)
        simpa [entI, entG] using this
      repeat' (first | (simp -dsimp only [↓reduceIte, go_sem, t0, t3, t10]) | (refine arr_intro fun _ => ?_) | (refine later_intro ⟨keeps_nil, ?_⟩) | (refine later_intro ⟨keeps_refl, ?_⟩) | (with_reducible refine keeps_go ?_ ?_; focus (first | (simp [keeps_cons, keeps_none, objs_app, objs_app0]; done) | (simp only [keeps_cons, keeps_none, objs_app0, objs_app, and_true]; first | rfl | exact ⟨rfl, rfl⟩ | exact ⟨rfl, rfl, rfl⟩))) | (with_reducible refine (And.intro (a := keeps _ _ _) ?_ ?_); focus (first | (simp [keeps_cons, keeps_none, objs_app, objs_app0]; done) | (simp only [keeps_cons, keeps_none, objs_app0, objs_app, and_true]; first | rfl | exact ⟨rfl, rfl⟩ | exact ⟨rfl, rfl, rfl⟩))) | (refine both_ways ?_ ?_) | (rw [wrap_i64 (by omega) (by omega)]) | (refine guardV_split (fun h => ?_) (fun h => ?_) <;> (try rw [h]) <;> (try simp at h) <;> (try (exfalso; omega))))
      rw [totK_all h.kd hperm m2]
      exact hK _ hV.less
theorem many_c (h : VF σ0 s j mi Ns lk F) (hN : Ns.length ≤ 100) (hd : ∀ n ∈ Ns, n.ch.length ≤ 1000) (hK : ∀ s', VF σ0 s' j mi Ns lk F → K (.int .i64 ((Ns.map fun n => n.ch.length).sum : Nat)) s') :
    TCalls Try.prog 106 [.ptr (some (j, []))] s K := by
  obtain ⟨E, ck, m1, m2, m3, m4⟩ := h.m
  have hj := cellAt_known h.o
  have hEN : E.length = Ns.length := by have := congrArg List.length m2; simpa using this
  have hfb : ∀ n ∈ Ns, n.ch.length ≤ 1000 := hd
  refine tcalls_walk Try.f106 _ [.tmp 2] Try.func106 rfl rfl rfl mixed (Nat.le_of_ble_eq_true rfl) rfl fun hlen => ?_
  repeat' (first | (simp -dsimp only [↓reduceIte, go_sem, hj]) | (refine arr_intro fun _ => ?_) | (refine later_intro ⟨keeps_nil, ?_⟩) | (refine later_intro ⟨keeps_refl, ?_⟩) | (with_reducible refine keeps_go ?_ ?_; focus (first | (simp [keeps_cons, keeps_none, objs_app, objs_app0]; done) | (simp only [keeps_cons, keeps_none, objs_app0, objs_app, and_true]; first | rfl | exact ⟨rfl, rfl⟩ | exact ⟨rfl, rfl, rfl⟩))) | (with_reducible refine (And.intro (a := keeps _ _ _) ?_ ?_); focus (first | (simp [keeps_cons, keeps_none, objs_app, objs_app0]; done) | (simp only [keeps_cons, keeps_none, objs_app0, objs_app, and_true]; first | rfl | exact ⟨rfl, rfl⟩ | exact ⟨rfl, rfl, rfl⟩))) | (refine both_ways ?_ ?_) | (rw [wrap_i64 (by omega) (by omega)]) | (refine guardV_split (fun h => ?_) (fun h => ?_) <;> (try rw [h]) <;> (try simp at h) <;> (try (exfalso; omega))))
  refine ⟨⟨3, 176, Try.underlying172⟩, ?_⟩
  simp only [m1]
  intro l b
  repeat' (first | (simp -dsimp only [↓reduceIte, go_sem]) | (refine arr_intro fun _ => ?_) | (refine later_intro ⟨keeps_nil, ?_⟩) | (refine later_intro ⟨keeps_refl, ?_⟩) | (with_reducible refine keeps_go ?_ ?_; focus (first | (simp [keeps_cons, keeps_none, objs_app, objs_app0]; done) | (simp only [keeps_cons, keeps_none, objs_app0, objs_app, and_true]; first | rfl | exact ⟨rfl, rfl⟩ | exact ⟨rfl, rfl, rfl⟩))) | (with_reducible refine (And.intro (a := keeps _ _ _) ?_ ?_); focus (first | (simp [keeps_cons, keeps_none, objs_app, objs_app0]; done) | (simp only [keeps_cons, keeps_none, objs_app0, objs_app, and_true]; first | rfl | exact ⟨rfl, rfl⟩ | exact ⟨rfl, rfl, rfl⟩))) | (refine both_ways ?_ ?_) | (rw [wrap_i64 (by omega) (by omega)]) | (refine guardV_split (fun h => ?_) (fun h => ?_) <;> (try rw [h]) <;> (try simp at h) <;> (try (exfalso; omega))))
  have hbx := h.box (iterO l b mi ck #[] ck)
  have hl4 := h.lts
  have hle : σ0.objs.length ≤ s.objs.length := by obtain ⟨O, T, rfl⟩ := h.x; simp
  have hmx : (s.app [iterO l b mi ck #[] ck]).objs[mi]? = some (.map (E.map entI) ck) := ext_knownV (Ext.app _ _) m1
  generalize hk0 : s.objs.length = k0 at *
  generalize s.app [iterO l b mi ck #[] ck] = s0 at hbx hmx ⊢
  refine awp_rounds (fun (i : Nat) τ s' => ∃ (D : List (Nat × Int × Nat)) (last : Nat), D.length = i ∧ Seen E D ∧ ck ≤ last ∧ VF σ0 s' j mi Ns lk ((k0, iterO l b mi ck (D.map (·.1)).toArray last) :: F) ∧ s'.objs[mi]? = some (.map (E.map entI) ck) ∧ τ 0 = .ptr (some (j, [])) ∧ τ 3 = .int .i64 (totK Ns (fun n => n.ch.length) D : Nat) ∧ τ 10 = .ptr (some (k0, []))) (fun i => E.length - i) 0 ?_ ?_
  · refine ⟨[], ck, rfl, Seen.nil, Nat.le_refl _, hbx, hmx, ?_, ?_, ?_⟩ <;> (try simp only [go_sem]) <;> (try rfl)
  · rintro i τ s' ⟨D, last, hDl, hD, hla, hV, hm', t0, t3, t10⟩
    have hit := (hV.f _ (List.mem_cons_self ..)).1
    dsimp only at hit
    repeat' (first | (simp -dsimp only [↓reduceIte, go_sem, t0, t3, t10]) | (refine arr_intro fun _ => ?_) | (refine later_intro ⟨keeps_nil, ?_⟩) | (refine later_intro ⟨keeps_refl, ?_⟩) | (with_reducible refine keeps_go ?_ ?_; focus (first | (simp [keeps_cons, keeps_none, objs_app, objs_app0]; done) | (simp only [keeps_cons, keeps_none, objs_app0, objs_app, and_true]; first | rfl | exact ⟨rfl, rfl⟩ | exact ⟨rfl, rfl, rfl⟩))) | (with_reducible refine (And.intro (a := keeps _ _ _) ?_ ?_); focus (first | (simp [keeps_cons, keeps_none, objs_app, objs_app0]; done) | (simp only [keeps_cons, keeps_none, objs_app0, objs_app, and_true]; first | rfl | exact ⟨rfl, rfl⟩ | exact ⟨rfl, rfl, rfl⟩))) | (refine both_ways ?_ ?_) | (rw [wrap_i64 (by omega) (by omega)]) | (refine guardV_split (fun h => ?_) (fun h => ?_) <;> (try rw [h]) <;> (try simp at h) <;> (try (exfalso; omega))))
    refine ⟨rfl, k0, l, b, mi, ck, _, last, _, _, rfl, hit, hm', ?_, hla, fun e he hne => ?_, fun hall => ?_⟩
    · intro e he
      obtain ⟨x, hx, rfl⟩ := List.mem_map.1 he
      exact m3 x hx
    · obtain ⟨e, he0, rfl⟩ := List.mem_map.1 he
      have hne' : ¬ e.1 ∈ D.map (·.1) := by simpa [entI, entG] using hne
      have hD' := hD.add he0 hne'
      have hl2 := hD'.len m4
      rw [List.length_append] at hl2
      simp only [List.length_singleton] at hl2
      have hV2 := hV.setF (o' := iterO l b mi ck ((D.map (·.1)).toArray.push (entI e).1) ck) hle (fun y hy => by have := hl4.2.2.2 y hy; omega)
      have om : (s'.set k0 (iterO l b mi ck ((D.map (·.1)).toArray.push (entI e).1) ck)).objs[mi]? = some (.map (E.map entI) ck) := by rw [objs_setNV (by omega)]; exact hm'
      generalize hs2 : s'.set k0 (iterO l b mi ck ((D.map (·.1)).toArray.push (entI e).1) ck) = s2 at hV2 om
      have oit := (hV2.f _ (List.mem_cons_self ..)).1
      dsimp only at oit
      repeat' (first | (simp -dsimp only [↓reduceIte, go_sem, t0, t3, t10, hs2]) | (refine arr_intro fun _ => ?_) | (refine later_intro ⟨keeps_nil, ?_⟩) | (refine later_intro ⟨keeps_refl, ?_⟩) | (with_reducible refine keeps_go ?_ ?_; focus (first | (simp [keeps_cons, keeps_none, objs_app, objs_app0]; done) | (simp only [keeps_cons, keeps_none, objs_app0, objs_app, and_true]; first | rfl | exact ⟨rfl, rfl⟩ | exact ⟨rfl, rfl, rfl⟩))) | (with_reducible refine (And.intro (a := keeps _ _ _) ?_ ?_); focus (first | (simp [keeps_cons, keeps_none, objs_app, objs_app0]; done) | (simp only [keeps_cons, keeps_none, objs_app0, objs_app, and_true]; first | rfl | exact ⟨rfl, rfl⟩ | exact ⟨rfl, rfl, rfl⟩))) | (refine both_ways ?_ ?_) | (rw [wrap_i64 (by omega) (by omega)]) | (refine guardV_split (fun h => ?_) (fun h => ?_) <;> (try rw [h]) <;> (try simp at h) <;> (try (exfalso; omega))))
      refine ⟨k0, l, b, mi, ck, (D.map (·.1)).toArray, _, entI e, ck, rfl, oit, om, he, ?_⟩
      have k2 : (entI e).2.2 = .ptr (some (e.2.2, [])) := rfl
      have hmE : e.2 ∈ Ns.map (fun n => (n.num, n.kn)) := by rw [← m2]; exact List.mem_map.2 ⟨e, he0, rfl⟩
      obtain ⟨n, hn2, en⟩ := List.mem_map.1 hmE
      have ek : e.2.2 = n.kn := by rw [← en]
      rw [ek] at k2
      have hn3 := hV2.n n hn2
      have cn3 := cellAt_known hn3
      have htl := totK_le hfb D
      have hfn := hfb n hn2
      have hdl := hd n hn2
      have htl2 : totK Ns (fun n => n.ch.length) D ≤ 100 * 1000 := Nat.le_trans htl (Nat.mul_le_mul_right _ (by omega))
      have hmn : (n.mn = none ∧ n.ch = []) ∨ ∃ q, n.mn = some q ∧ s2.objs[q]? = some (.map (n.ch.map entS) n.ck) := by
        cases hq : n.mn with
        | none =>
          refine Or.inl ⟨rfl, (h.c n hn2).2.2.2 fun hk => ?_⟩
          obtain ⟨q, hq2⟩ := (h.c n hn2).2.2.1 hk
          rw [hq] at hq2; cases hq2
        | some q => exact Or.inr ⟨q, rfl, hV2.d n hn2 q hq⟩
      have hu177 := Try.underlying177
      have hq5 : IntKind.i64.wrap (((totK Ns (fun n => n.ch.length) D : Nat) : Int) + (n.ch.length : Nat)) = ((totK Ns (fun n => n.ch.length) D : Nat) : Int) + (n.ch.length : Nat) := by rw [wrap64] <;> omega
      have hita : (D.map (·.1)).toArray.push (entI e).1 = ((D ++ [e]).map (·.1)).toArray := by simp [entI, entG]
      have htt : (((totK Ns (fun n => n.ch.length) (D ++ [e]) : Nat) : Int)) = ((totK Ns (fun n => n.ch.length) D : Nat) : Int) + (n.ch.length : Nat) := by rw [totK_add, ek, szK_of h.kd hn2, Int.natCast_add]
      refine Or.elim hmn (fun hm1 => ?_) (fun hm1 => ?_)
      · rw [hm1.1] at cn3
        have hz : n.ch.length = 0 := by rw [hm1.2]; rfl
        rw [hz] at hq5 htt
        repeat' (first | (simp -dsimp only [↓reduceIte, go_sem, t0, t3, t10, k2, cn3, len_mpnil hu177]) | (refine arr_intro fun _ => ?_) | (refine later_intro ⟨keeps_nil, ?_⟩) | (refine later_intro ⟨keeps_refl, ?_⟩) | (with_reducible refine keeps_go ?_ ?_; focus (first | (simp [keeps_cons, keeps_none, objs_app, objs_app0]; done) | (simp only [keeps_cons, keeps_none, objs_app0, objs_app, and_true]; first | rfl | exact ⟨rfl, rfl⟩ | exact ⟨rfl, rfl, rfl⟩))) | (with_reducible refine (And.intro (a := keeps _ _ _) ?_ ?_); focus (first | (simp [keeps_cons, keeps_none, objs_app, objs_app0]; done) | (simp only [keeps_cons, keeps_none, objs_app0, objs_app, and_true]; first | rfl | exact ⟨rfl, rfl⟩ | exact ⟨rfl, rfl, rfl⟩))) | (refine both_ways ?_ ?_) | (rw [wrap_i64 (by omega) (by omega)]) | (refine guardV_split (fun h => ?_) (fun h => ?_) <;> (try rw [h]) <;> (try simp at h) <;> (try (exfalso; omega))))
        rw [hita] at hV2
        refine later_intro ⟨i + 1, by omega, D ++ [e], ck, by simp [hDl], hD', Nat.le_refl _, hV2, om, ?_, ?_, ?_⟩ <;> (try simp only [go_sem, t0, t3, t10, htt]) <;> (try rfl)
      · obtain ⟨q, hm2, hm3⟩ := hm1
        rw [hm2] at cn3
        repeat' (first | (simp -dsimp only [↓reduceIte, go_sem, t0, t3, t10, k2, cn3, len_mp hu177 hm3]) | (refine arr_intro fun _ => ?_) | (refine later_intro ⟨keeps_nil, ?_⟩) | (refine later_intro ⟨keeps_refl, ?_⟩) | (with_reducible refine keeps_go ?_ ?_; focus (first | (simp [keeps_cons, keeps_none, objs_app, objs_app0]; done) | (simp only [keeps_cons, keeps_none, objs_app0, objs_app, and_true]; first | rfl | exact ⟨rfl, rfl⟩ | exact ⟨rfl, rfl, rfl⟩))) | (with_reducible refine (And.intro (a := keeps _ _ _) ?_ ?_); focus (first | (simp [keeps_cons, keeps_none, objs_app, objs_app0]; done) | (simp only [keeps_cons, keeps_none, objs_app0, objs_app, and_true]; first | rfl | exact ⟨rfl, rfl⟩ | exact ⟨rfl, rfl, rfl⟩))) | (refine both_ways ?_ ?_) | (rw [wrap_i64 (by omega) (by omega)]) | (refine guardV_split (fun h => ?_) (fun h => ?_) <;> (try rw [h]) <;> (try simp at h) <;> (try (exfalso; omega))))
        refine ⟨by simp only [maxL]; omega, later_intro ?_⟩
        have hcl : (n.ch.map entS).length = n.ch.length := List.length_map ..
        repeat' (first | (simp -dsimp only [↓reduceIte, go_sem, t0, t3, t10, k2, cn3, hcl]) | (refine arr_intro fun _ => ?_) | (refine later_intro ⟨keeps_nil, ?_⟩) | (refine later_intro ⟨keeps_refl, ?_⟩) | (with_reducible refine keeps_go ?_ ?_; focus (first | (simp [keeps_cons, keeps_none, objs_app, objs_app0]; done) | (simp only [keeps_cons, keeps_none, objs_app0, objs_app, and_true]; first | rfl | exact ⟨rfl, rfl⟩ | exact ⟨rfl, rfl, rfl⟩))) | (with_reducible refine (And.intro (a := keeps _ _ _) ?_ ?_); focus (first | (simp [keeps_cons, keeps_none, objs_app, objs_app0]; done) | (simp only [keeps_cons, keeps_none, objs_app0, objs_app, and_true]; first | rfl | exact ⟨rfl, rfl⟩ | exact ⟨rfl, rfl, rfl⟩))) | (refine both_ways ?_ ?_) | (rw [wrap_i64 (by omega) (by omega)]) | (refine guardV_split (fun h => ?_) (fun h => ?_) <;> (try rw [h]) <;> (try simp at h) <;> (try (exfalso; omega))))
        rw [hita] at hV2
        refine later_intro ⟨i + 1, by omega, D ++ [e], ck, by simp [hDl], hD', Nat.le_refl _, hV2, om, ?_, ?_, ?_⟩ <;> (try simp only [go_sem, t0, t3, t10, htt]) <;> (try rfl)
    · have hperm := hD.all m4 fun e he => by
        have := hall (entI e) (List.mem_map_of_mem he)
        simpa [entI, entG] using this
      repeat' (first | (simp -dsimp only [↓reduceIte, go_sem, t0, t3, t10]) | (refine arr_intro fun _ => ?_) | (refine later_intro ⟨keeps_nil, ?_⟩) | (refine later_intro ⟨keeps_refl, ?_⟩) | (with_reducible refine keeps_go ?_ ?_; focus (first | (simp [keeps_cons, keeps_none, objs_app, objs_app0]; done) | (simp only [keeps_cons, keeps_none, objs_app0, objs_app, and_true]; first | rfl | exact ⟨rfl, rfl⟩ | exact ⟨rfl, rfl, rfl⟩))) | (with_reducible refine (And.intro (a := keeps _ _ _) ?_ ?_); focus (first | (simp [keeps_cons, keeps_none, objs_app, objs_app0]; done) | (simp only [keeps_cons, keeps_none, objs_app0, objs_app, and_true]; first | rfl | exact ⟨rfl, rfl⟩ | exact ⟨rfl, rfl, rfl⟩))) | (refine both_ways ?_ ?_) | (rw [wrap_i64 (by omega) (by omega)]) | (refine guardV_split (fun h => ?_) (fun h => ?_) <;> (try rw [h]) <;> (try simp at h) <;> (try (exfalso; omega))))
      rw [totK_all h.kd hperm m2]
      exact hK _ hV.less
end
structure PlainN (x : Node) : Prop where
  n : 1 ≤ x.num ∧ x.num ≤ 32
  l : x.names.length = x.nodes.length
  k : (x.kind = 2 ∧ x.names = [] ∧ x.data.length ≤ 512) ∨ (x.kind = 1 ∧ x.data = [])
  s : L21.NamesOk x.names
  b : x.names.length ≤ 80
theorem plain_c {y : TNd} {s : AST} {K : AV → AST → Prop} (h : PlainN y.x) (hK : K (.bool true) s) : TCalls Try.prog 103 [ndX y] s K := by
  refine TCalls.drop ?_
  obtain ⟨x, t, u⟩ := y
  dsimp only at h
  obtain ⟨⟨h1, h2⟩, h3, h4, h5, h6⟩ := h
  have g1 : ¬ x.num < 1 := by omega
  have g2 : ¬ 32 < x.num := by omega
  have g3 : ((x.names.length : Nat) : Int) = x.nodes.length := by omega
  rcases h4 with ⟨hk, hnm, hd⟩ | ⟨hk, hd⟩
  · refine tcalls_walk Try.f103 _ [.tmp 2] Try.func103 rfl rfl rfl mixed (Nat.le_of_ble_eq_true rfl) rfl fun hlen => ?_
    have hd1 : ((x.data.length : Nat) : Int) ≤ 512 := by omega
    have g4 : x.nodes.length = 0 := by rw [← h3, hnm]; rfl
    repeat' (first | (simp -dsimp only [↓reduceIte, go_sem, ndX, g1, g2, hk, hnm, hd1, g4]) | (refine arr_intro fun _ => ?_) | (refine later_intro ⟨keeps_nil, ?_⟩) | (refine later_intro ⟨keeps_refl, ?_⟩) | (with_reducible refine keeps_go ?_ ?_; focus (first | (simp [keeps_cons, keeps_none, objs_app, objs_app0]; done) | (simp only [keeps_cons, keeps_none, objs_app0, objs_app, and_true]; first | rfl | exact ⟨rfl, rfl⟩ | exact ⟨rfl, rfl, rfl⟩))) | (with_reducible refine (And.intro (a := keeps _ _ _) ?_ ?_); focus (first | (simp [keeps_cons, keeps_none, objs_app, objs_app0]; done) | (simp only [keeps_cons, keeps_none, objs_app0, objs_app, and_true]; first | rfl | exact ⟨rfl, rfl⟩ | exact ⟨rfl, rfl, rfl⟩))) | (refine both_ways ?_ ?_) | (rw [wrap_i64 (by omega) (by omega)]) | (refine guardV_split (fun h => ?_) (fun h => ?_) <;> (try rw [h]) <;> (try simp at h) <;> (try (exfalso; omega))))
    · exact ⟨Ext.app _ _, rfl, hK⟩
  · refine tcalls_walk Try.f103 _ [.tmp 2] Try.func103 rfl rfl rfl mixed (Nat.le_of_ble_eq_true rfl) rfl fun hlen => ?_
    repeat' (first | (simp -dsimp only [↓reduceIte, go_sem, ndX, g1, g2, g3, hk, hd]) | (refine arr_intro fun _ => ?_) | (refine later_intro ⟨keeps_nil, ?_⟩) | (refine later_intro ⟨keeps_refl, ?_⟩) | (with_reducible refine keeps_go ?_ ?_; focus (first | (simp [keeps_cons, keeps_none, objs_app, objs_app0]; done) | (simp only [keeps_cons, keeps_none, objs_app0, objs_app, and_true]; first | rfl | exact ⟨rfl, rfl⟩ | exact ⟨rfl, rfl, rfl⟩))) | (with_reducible refine (And.intro (a := keeps _ _ _) ?_ ?_); focus (first | (simp [keeps_cons, keeps_none, objs_app, objs_app0]; done) | (simp only [keeps_cons, keeps_none, objs_app0, objs_app, and_true]; first | rfl | exact ⟨rfl, rfl⟩ | exact ⟨rfl, rfl, rfl⟩))) | (refine both_ways ?_ ?_) | (rw [wrap_i64 (by omega) (by omega)]) | (refine guardV_split (fun h => ?_) (fun h => ?_) <;> (try rw [h]) <;> (try simp at h) <;> (try (exfalso; omega))))
    have cb : ∀ p, cellAt (s.app [.cells (ndV t u x)]) s.objs.length p = (ndV t u x).at p := cellAt_known objs_app0
    have hx1 : Ext s (s.app [.cells (ndV t u x)]) := Ext.app _ _
    generalize s.app [.cells (ndV t u x)] = s1 at cb hx1 ⊢
    refine awp_rounds (fun (i : Nat) τ s' => s' = s1 ∧ i ≤ x.names.length ∧ τ 1 = .ptr (some (s.objs.length, [])) ∧ τ 47 = .slice t (x.names.map AV.str) ∧ τ 48 = .int .i64 x.names.length ∧ τ 49 = .int .i64 i) (fun i => x.names.length - i) 0 ?_ ?_
    · refine ⟨rfl, by omega, ?_, ?_, ?_, ?_⟩ <;> (try simp only [go_sem]) <;> (try rfl) <;> (try rw [g3])
    · rintro i τ s' ⟨rfl, hi, t1, t47, t48, t49⟩
      by_cases hb : i < x.names.length
      · have hlt1 : (i : Int) < x.names.length := by omega
        have hy : x.names[i]? = some x.names[i] := List.getElem?_eq_getElem hb
        generalize x.names[i] = z at hy
        obtain ⟨z1, z2⟩ := h5 i z hy
        have w1 : IntKind.i64.wrap ((i : Int) + 1) = (i : Int) + 1 := wrap_i64 (by omega) (by omega)
        by_cases hi0 : 0 < i
        · obtain ⟨z', hz'⟩ : ∃ z', x.names[i - 1]? = some z' := ⟨_, List.getElem?_eq_getElem (by omega)⟩
          have hle := z2 z' hi0 hz'
          have hle' : (Op.bytesLess z z' || z == z') = false := hle
          have hi1 : (0 : Int) < (i : Int) := by omega
          have w2 : IntKind.i64.wrap ((i : Int) - 1) = ((i - 1 : Nat) : Int) := by rw [wrap_i64 (by omega) (by omega)]; omega
          repeat' (first | (simp -dsimp only [↓reduceIte, go_sem, t1, t47, t48, t49, cb, hlt1, w1, w2, z1, hi1, hle']) | (refine arr_intro fun _ => ?_) | (refine later_intro ⟨keeps_nil, ?_⟩) | (refine later_intro ⟨keeps_refl, ?_⟩) | (with_reducible refine keeps_go ?_ ?_; focus (first | (simp [keeps_cons, keeps_none, objs_app, objs_app0]; done) | (simp only [keeps_cons, keeps_none, objs_app0, objs_app, and_true]; first | rfl | exact ⟨rfl, rfl⟩ | exact ⟨rfl, rfl, rfl⟩))) | (with_reducible refine (And.intro (a := keeps _ _ _) ?_ ?_); focus (first | (simp [keeps_cons, keeps_none, objs_app, objs_app0]; done) | (simp only [keeps_cons, keeps_none, objs_app0, objs_app, and_true]; first | rfl | exact ⟨rfl, rfl⟩ | exact ⟨rfl, rfl, rfl⟩))) | (refine both_ways ?_ ?_) | (rw [wrap_i64 (by omega) (by omega)]) | (refine guardV_split (fun h => ?_) (fun h => ?_) <;> (try rw [h]) <;> (try simp at h) <;> (try (exfalso; omega))) | (refine nth_get hy ?_) | (refine L21.name_c ?_) | (refine nth_get hz' ?_))
          exact later_intro ⟨i + 1, by omega, by omega, rfl⟩
        · have hi1 : i = 0 := by omega
          subst hi1
          have hi2 : ¬ (0 : Int) < ((0 : Nat) : Int) := by omega
          repeat' (first | (simp -dsimp only [↓reduceIte, go_sem, t1, t47, t48, t49, cb, hlt1, w1, z1, hi2]) | (refine arr_intro fun _ => ?_) | (refine later_intro ⟨keeps_nil, ?_⟩) | (refine later_intro ⟨keeps_refl, ?_⟩) | (with_reducible refine keeps_go ?_ ?_; focus (first | (simp [keeps_cons, keeps_none, objs_app, objs_app0]; done) | (simp only [keeps_cons, keeps_none, objs_app0, objs_app, and_true]; first | rfl | exact ⟨rfl, rfl⟩ | exact ⟨rfl, rfl, rfl⟩))) | (with_reducible refine (And.intro (a := keeps _ _ _) ?_ ?_); focus (first | (simp [keeps_cons, keeps_none, objs_app, objs_app0]; done) | (simp only [keeps_cons, keeps_none, objs_app0, objs_app, and_true]; first | rfl | exact ⟨rfl, rfl⟩ | exact ⟨rfl, rfl, rfl⟩))) | (refine both_ways ?_ ?_) | (rw [wrap_i64 (by omega) (by omega)]) | (refine guardV_split (fun h => ?_) (fun h => ?_) <;> (try rw [h]) <;> (try simp at h) <;> (try (exfalso; omega))) | (refine nth_get hy ?_) | (refine L21.name_c ?_))
          refine later_intro ⟨0 + 1, by omega, rfl, by omega, ?_, ?_, ?_, ?_⟩ <;> (try simp only [go_sem, t1, t47, t48, t49]) <;> (try rfl)
      · have hlt1 : ¬ (i : Int) < x.names.length := by omega
        repeat' (first | (simp -dsimp only [↓reduceIte, go_sem, t1, t47, t48, t49, hlt1]) | (refine arr_intro fun _ => ?_) | (refine later_intro ⟨keeps_nil, ?_⟩) | (refine later_intro ⟨keeps_refl, ?_⟩) | (with_reducible refine keeps_go ?_ ?_; focus (first | (simp [keeps_cons, keeps_none, objs_app, objs_app0]; done) | (simp only [keeps_cons, keeps_none, objs_app0, objs_app, and_true]; first | rfl | exact ⟨rfl, rfl⟩ | exact ⟨rfl, rfl, rfl⟩))) | (with_reducible refine (And.intro (a := keeps _ _ _) ?_ ?_); focus (first | (simp [keeps_cons, keeps_none, objs_app, objs_app0]; done) | (simp only [keeps_cons, keeps_none, objs_app0, objs_app, and_true]; first | rfl | exact ⟨rfl, rfl⟩ | exact ⟨rfl, rfl, rfl⟩))) | (refine both_ways ?_ ?_) | (rw [wrap_i64 (by omega) (by omega)]) | (refine guardV_split (fun h => ?_) (fun h => ?_) <;> (try rw [h]) <;> (try simp at h) <;> (try (exfalso; omega))))
        exact ⟨hx1, rfl, hK⟩
def chI (x : Node) (i : Nat) : List (Nat × List UInt8 × Int) := (List.range i).map fun q => (q, x.names.getD q [], x.nodes.getD q 0)
theorem chI_succ {x : Node} {i : Nat} {z : List UInt8} {c : Int} (hz : x.names[i]? = some z) (hc : x.nodes[i]? = some c) : chI x (i + 1) = chI x i ++ [(i, z, c)] := by
  unfold chI
  rw [List.range_succ, List.map_append, List.map_singleton]
  simp [List.getD, hz, hc]
theorem chI_mark {x : Node} {i : Nat} : ∀ e ∈ chI x i, e.1 < i := by
  intro e he
  obtain ⟨q, hq, rfl⟩ := List.mem_map.1 he
  exact List.mem_range.1 hq
theorem chI_nodup {x : Node} {i : Nat} : ((chI x i).map (·.1)).Nodup := by
  have : (chI x i).map (·.1) = List.range i := by unfold chI; rw [List.map_map]; exact List.map_id _
  rw [this]; exact List.nodup_range
theorem chI_all {x : Node} (h : x.names.length = x.nodes.length) : (chI x x.names.length).map (·.2.2) = x.nodes := by
  unfold chI
  rw [List.map_map, h]
  apply List.ext_getElem (by simp)
  intro i h1 h2
  simp [List.getD, List.getElem?_eq_getElem h2]
theorem chI_names {x : Node} {i : Nat} (hi : i ≤ x.names.length) : (chI x i).map (·.2.1) = x.names.take i := by
  unfold chI
  rw [List.map_map]
  apply List.ext_getElem (by simp; omega)
  intro q h1 h2
  have h3 : q < x.names.length := by simp at h2; omega
  simp [List.getD, List.getElem?_eq_getElem h3]
theorem chI_len {x : Node} {i : Nat} : (chI x i).length = i := by simp [chI]
theorem updS {s : AST} {q : Nat} {x : Node} {i : Nat} {z : List UInt8} {c : Int} {KS : AST → Prop} (ho : s.objs[q]? = some (.map ((chI x i).map entS) i)) (hz : x.names[i]? = some z) (hc : x.nodes[i]? = some c) (hn : ¬ z ∈ x.names.take i)
    (hK : KS (s.set q (.map ((chI x (i + 1)).map entS) (i + 1)))) : mapUpdateW Try.prog s 177 (.mp (some q)) (.str z) (.int .i64 c) KS := by
  refine ⟨9, 3, Try.underlying177, keyS, rfl, ?_⟩
  simp only [ho]
  refine ⟨_, findS, ?_⟩
  have hi := (List.getElem?_eq_some_iff.1 hz).1
  have hf : (chI x i).findIdx? (fun e => e.2.1 == z) = none := by
    rw [List.findIdx?_eq_none_iff]
    intro e he
    have : e.2.1 ∈ x.names.take i := by rw [← chI_names (by omega)]; exact List.mem_map.2 ⟨e, he, rfl⟩
    simp; rintro rfl; exact hn this
  rw [hf]
  rw [chI_succ hz hc, List.map_append] at hK
  exact hK
section
variable {σ0 s : AST} {j mi : Nat} {Ns : List VN} {F : List (Nat × AObj)} {KS : AST → Prop}
structure Fresh (σ0 s : AST) (j mi : Nat) (Ns : List VN) (n : VN) : Prop where
  o : s.objs[n.kn]? = some (.cells (.agg (vnPs n.kind 0 n.data n.mn)))
  d : ∀ q, n.mn = some q → s.objs[q]? = some (.map (n.ch.map entS) n.ck)
  k : n.kn ≠ j ∧ n.kn ≠ mi ∧ n.mn ≠ some n.kn ∧ ∀ p ∈ Ns, p.kn ≠ n.kn ∧ p.mn ≠ some n.kn ∧ n.mn ≠ some p.kn
  e : n.mn ≠ some mi ∧ n.mn ≠ some j
  g : σ0.objs.length ≤ n.kn
  c : (∀ e ∈ n.ch, e.1 < n.ck) ∧ (n.ch.map (·.1)).Nodup ∧ (n.kind = 1 → ∃ k, n.mn = some k) ∧ (n.kind ≠ 1 → n.ch = [])
  n : ∀ p ∈ Ns, p.num ≠ n.num
theorem updV {n : VN} (h : VF σ0 s j mi Ns (fun _ => 0) []) (hj : j ≠ mi) (hm : σ0.objs.length ≤ mi) (hd : ∀ p ∈ Ns, p.mn ≠ some mi) (hf : Fresh σ0 s j mi Ns n)
    (hK : ∀ s', VF σ0 s' j mi (Ns ++ [n]) (fun _ => 0) [] → (∀ q, q ≠ mi → s'.objs[q]? = s.objs[q]?) → s'.objs.length = s.objs.length → KS s') : mapUpdateW Try.prog s 172 (.mp (some mi)) (.int .i64 n.num) (.ptr (some (n.kn, []))) KS := by
  obtain ⟨E, ck, m1, m2, m3, m4⟩ := h.m
  refine ⟨3, 176, Try.underlying172, keyI, rfl, ?_⟩
  simp only [m1]
  refine ⟨_, findI, ?_⟩
  have hnone : E.findIdx? (fun e => e.2.1 == n.num) = none := by
    rw [List.findIdx?_eq_none_iff]
    intro e he
    have : e.2 ∈ Ns.map (fun n => (n.num, n.kn)) := by rw [← m2]; exact List.mem_map.2 ⟨e, he, rfl⟩
    obtain ⟨p, hp, hpe⟩ := List.mem_map.1 this
    have := hf.n p hp
    rw [← hpe]; simpa using this
  rw [hnone]
  have hml : mi < s.objs.length := (List.getElem?_eq_some_iff.1 m1).1
  have ho : ∀ q o, q ≠ mi → (s.set mi o).objs[q]? = s.objs[q]? := fun q o hq => objs_setNV (Ne.symm hq)
  obtain ⟨k1, k2, k3, k4⟩ := hf.k
  refine hK _ ?_ (fun q hq => ho q _ hq) (by simp [AST.set])
  have e1 : E.map entI ++ [(ck, AV.int .i64 n.num, AV.ptr (some (n.kn, [])))] = (E ++ [(ck, n.num, n.kn)]).map entI := by rw [List.map_append]; rfl
  refine ⟨h.x.set hm, by rw [ho _ _ hj]; exact h.o, ⟨E ++ [(ck, n.num, n.kn)], ck + 1, by rw [objs_setSV hml]; exact congrArg (fun l => some (AObj.map l (ck + 1))) e1, by rw [List.map_append, List.map_append, m2]; rfl, ?_, ?_⟩, ?_, ?_, ?_, ?_, ?_, ?_, ?_, by simp⟩
  · intro e he
    rcases List.mem_append.1 he with he | he
    · have := m3 e he; omega
    · simp at he; subst he; simp
  · rw [List.map_append, List.nodup_append]
    refine ⟨m4, by simp, fun a ha b hb => ?_⟩
    obtain ⟨x, hx, rfl⟩ := List.mem_map.1 ha
    simp at hb; subst hb
    have := m3 x hx; omega
  · intro p hp
    rcases List.mem_append.1 hp with hp | hp
    · rw [ho _ _ (h.kj p hp).2.1]; exact h.n p hp
    · simp at hp; subst hp; rw [ho _ _ k2]; exact hf.o
  · intro p hp k hk
    rcases List.mem_append.1 hp with hp | hp
    · have : k ≠ mi := fun e => hd p hp (by rw [hk, e])
      rw [ho _ _ this]; exact h.d p hp k hk
    · simp at hp; subst hp
      have : k ≠ mi := fun e => hf.e.1 (by rw [hk, e])
      rw [ho _ _ this]; exact hf.d k hk
  · intro p hp
    rcases List.mem_append.1 hp with hp | hp
    · exact h.c p hp
    · simp at hp; subst hp; exact hf.c
  · rw [List.map_append, List.nodup_append]
    refine ⟨h.nn, by simp, fun a ha b hb => ?_⟩
    obtain ⟨x, hx, rfl⟩ := List.mem_map.1 ha
    simp at hb; subst hb
    exact hf.n x hx
  · rw [List.map_append, List.nodup_append]
    refine ⟨h.kd, by simp, fun a ha b hb => ?_⟩
    obtain ⟨x, hx, rfl⟩ := List.mem_map.1 ha
    simp at hb; subst hb
    exact (k4 x hx).1
  · intro p hp
    rcases List.mem_append.1 hp with hq | hp
    · refine ⟨(h.kj p hq).1, (h.kj p hq).2.1, fun x hx => ?_⟩
      rcases List.mem_append.1 hx with hx | hx
      · exact (h.kj p hq).2.2 x hx
      · simp at hx; subst hx; exact (k4 p hq).2.2
    · simp at hp; subst hp
      refine ⟨k1, k2, fun x hx => ?_⟩
      rcases List.mem_append.1 hx with hx | hx
      · exact (k4 x hx).2.1
      · simp at hx; subst hx; exact k3
  · intro p hp
    rcases List.mem_append.1 hp with hp | hp
    · exact h.ge p hp
    · simp at hp; subst hp; exact hf.g
end
end Go.Aff.L10

