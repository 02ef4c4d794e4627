import Derived.Test.YtnpbneiaflgpdaaG21
import Derived.Test.YtnpbneiaflgpdaaG19
import Derived.Test.YtnpbneiaflgpdaaG36
import Derived.Test.YtnpbneiaflgpdaaG32
import Derived.Test.YtnpbneiaflgpdaaG16

set_option linter.unusedSimpArgs false
set_option linter.unusedVariables false

/- What is read was laid so. -/
namespace Go.Aff.L01
open Go.Proofs Go.Aff
set_option linter.unusedVariables false
set_option maxRecDepth 20000
set_option linter.unusedSimpArgs false

theorem text_once {s t : List UInt8} {p : Nat} {nx : Int} (hp : p ≤ s.length) (h : textP s p = (t, nx, 0)) :
    s.drop p = textS t ++ s.drop nx.toNat ∧ nx = ((p + (textS t).length : Nat) : Int) ∧ ¬ 16384 < t.length := by
  unfold textP at h
  have hel := dend_le hp
  split at h
  · simp only [Prod.mk.injEq] at h; rename_i h0; exact absurd h.2.2 h0
  · rename_i h0
    have h0 := Classical.not_not.1 h0
    split at h
    · simp at h
    · split at h
      · simp at h
      · rename_i hv hlt
        simp only [Prod.mk.injEq, and_true] at h
        obtain ⟨rfl, rfl⟩ := h
        have h1 := shape_once (c := 58) hp h0
        have hok := shape_lt h0 hel
        have hlen := congrArg List.length h1
        have htl : ((s.take (dend s p + 1 + val (digs s p))).drop (dend s p + 1)).length = val (digs s p) := by simp; omega
        have hts : textS ((s.take (dend s p + 1 + val (digs s p))).drop (dend s p + 1)) = dg (val (digs s p)) ++ [58] ++ (s.take (dend s p + 1 + val (digs s p))).drop (dend s p + 1) := by unfold textS; rw [htl]
        have hnx : (((dend s p + 1 + val (digs s p) : Nat) : Int)).toNat = dend s p + 1 + val (digs s p) := by rw [Int.toNat_natCast]
        rw [hts, hnx, htl]
        simp only [List.length_append, List.length_cons, List.length_drop, List.length_nil] at hlen
        refine ⟨?_, ?_, hv⟩
        · rw [h1]
          have : s.drop (dend s p + 1) = (s.take (dend s p + 1 + val (digs s p))).drop (dend s p + 1) ++ s.drop (dend s p + 1 + val (digs s p)) := by
            rw [List.drop_take, show dend s p + 1 + val (digs s p) - (dend s p + 1) = val (digs s p) by omega, ← List.drop_drop (i := val (digs s p)) (j := dend s p + 1), List.take_append_drop]
          conv => lhs; rw [this]
          simp
        · simp only [List.length_append, List.length_cons, List.length_nil, htl]; omega

theorem readL_once {α : Type} {f : α → List UInt8} {one : Nat → α × Int × Int} {s : List UInt8} {pr : α → Prop}
    (hone : ∀ (p : Nat) (a : α) (nx : Int), p ≤ s.length → one p = (a, nx, 0) → s.drop p = f a ++ s.drop nx.toNat ∧ nx = ((p + (f a).length : Nat) : Int) ∧ pr a) :
    ∀ (k p : Nat) (acc l : List α) (nx : Int), s.length - p ≤ k → p ≤ s.length → acc.length ≤ 512 → readL one s p acc = (l, nx, 0) →
      ∃ r, l = acc ++ r ∧ s.drop p = r.flatMap f ++ 41 :: s.drop nx.toNat ∧ nx = ((p + (r.flatMap f).length + 1 : Nat) : Int) ∧ (∀ a ∈ r, pr a) ∧ l.length ≤ 512 := by
  intro k
  induction k with
  | zero =>
    intro p acc l nx hk hp hacc h
    rw [readL, if_pos (by omega)] at h
    simp at h
  | succ k ih =>
    intro p acc l nx hk hp hacc h
    rw [readL] at h
    split at h
    · simp at h
    · rename_i hne
      split at h
      · rename_i h41
        simp only [Prod.mk.injEq, and_true] at h
        obtain ⟨rfl, rfl⟩ := h
        have hlt : p < s.length := by omega
        have hc := bAt_some (c := 41) hlt h41
        refine ⟨[], by simp, ?_, by simp, by simp, hacc⟩
        rw [List.flatMap_nil, List.nil_append, Int.toNat_natCast, List.drop_eq_getElem_cons hlt]; congr 1
        rw [List.getElem?_eq_getElem hlt] at hc; exact Option.some.inj hc
      · split at h
        · simp at h
        · rename_i h512
          split at h
          · simp only [Prod.mk.injEq] at h; rename_i h0; exact absurd h.2.2 h0
          · rename_i h0
            split at h
            · rename_i hpr
              have h0 := Classical.not_not.1 h0
              obtain ⟨e1, e2, e3⟩ := hone p (one p).1 (one p).2.1 hp (by rw [← h0])
              obtain ⟨r, hr1, hr2, hr3, hr4, hr5⟩ := ih (one p).2.1.toNat (acc ++ [(one p).1]) l nx (by omega) (by omega) (by simp; omega) h
              refine ⟨(one p).1 :: r, by rw [hr1]; simp, ?_, ?_, ?_, hr5⟩
              · rw [e1, hr2]; simp
              · rw [hr3, e2]; simp; omega
              · intro a ha
                rcases List.mem_cons.1 ha with rfl | ha
                · exact e3
                · exact hr4 a ha
            · simp at h

theorem readL_err {α : Type} {one : Nat → α × Int × Int} {s : List UInt8} : ∀ (k p : Nat) (acc : List α), s.length - p ≤ k → p ≤ s.length → (readL one s p acc).2.2 ≠ 0 → (readL one s p acc).1 = [] ∧ (readL one s p acc).2.1 = 0 := by
  intro k
  induction k with
  | zero =>
    intro p acc hk hp h
    rw [readL, if_pos (by omega)]
    simp
  | succ k ih =>
    intro p acc hk hp h
    rw [readL] at h ⊢
    split
    · simp
    · split
      · rename_i h1 h2; rw [if_neg h1, if_pos h2] at h; simp at h
      · split
        · simp
        · split
          · simp
          · split
            · rename_i h1 h2 h3 h4 h5
              rw [if_neg h1, if_neg h2, if_neg h3, if_neg h4, dif_pos h5] at h
              exact ih _ _ (by omega) (by omega) h
            · simp

theorem readR_err {α : Type} {one : Nat → α × Int × Int} {s : List UInt8} {i : Int} (h : (readR one s i).2.2 ≠ 0) : (readR one s i).1 = [] ∧ (readR one s i).2.1 = 0 := by
  unfold readR at h ⊢
  split
  · simp
  · split
    · simp
    · split
      · simp
      · rename_i h1 h2 h3
        rw [if_neg h1, if_neg h2, if_neg h3] at h
        exact readL_err _ _ _ (Nat.le_refl _) (by omega) h

theorem list_once {α : Type} {f : α → List UInt8} {one : Nat → α × Int × Int} {s : List UInt8} {pr : α → Prop}
    (hone : ∀ (p : Nat) (a : α) (nx : Int), p ≤ s.length → one p = (a, nx, 0) → s.drop p = f a ++ s.drop nx.toNat ∧ nx = ((p + (f a).length : Nat) : Int) ∧ pr a)
    {p : Nat} {l : List α} {nx : Int} (hp : p ≤ s.length) (h : readR one s p = (l, nx, 0)) :
    s.drop p = laidAll f l ++ s.drop nx.toNat ∧ nx = ((p + (laidAll f l).length : Nat) : Int) ∧ (∀ a ∈ l, pr a) ∧ ¬ 512 < l.length := by
  unfold readR at h
  split at h
  · simp at h
  · split at h
    · simp at h
    · split at h
      · simp at h
      · rename_i h1 h2 h40
        rw [Int.toNat_natCast] at h h2 h40
        have hlt : p < s.length := by omega
        have hc := bAt_some (c := 40) hlt (Classical.not_not.1 h40)
        obtain ⟨r, hr1, hr2, hr3, hr4, hr5⟩ := readL_once (f := f) hone _ (p + 1) [] l nx (Nat.le_refl _) (by omega) (by simp) h
        rw [List.nil_append] at hr1; subst hr1
        refine ⟨?_, ?_, hr4, by omega⟩
        · have : s.drop p = 40 :: s.drop (p + 1) := by
            rw [List.drop_eq_getElem_cons hlt]; congr 1
            rw [List.getElem?_eq_getElem hlt] at hc; exact Option.some.inj hc
          rw [this, hr2]; simp [laidAll, part]
        · rw [hr3]; simp [laidAll, part]; omega

/-- The bytes between two places. -/
theorem between {s x : List UInt8} {p : Nat} {nx : Int} (h : s.drop p = x ++ s.drop nx.toNat) (hn : nx = ((p + x.length : Nat) : Int)) (hp : p ≤ s.length) : p ≤ nx.toNat ∧ nx.toNat ≤ s.length ∧ (s.take nx.toNat).drop p = x := by
  have h2 : nx.toNat = p + x.length := by rw [hn, Int.toNat_natCast]
  have hlen := congrArg List.length h
  rw [h2] at h hlen ⊢
  simp only [List.length_append, List.length_drop] at hlen
  refine ⟨by omega, by omega, ?_⟩
  rw [List.drop_take, show p + x.length - p = x.length by omega, h, List.take_left]

end Go.Aff.L01

/- Layer 10: what is read was laid so. -/
namespace Go.Aff.L10
open Go.Proofs Go.Aff Go.Aff.L01 Classical
set_option linter.unusedVariables false
set_option linter.unusedSimpArgs false
set_option maxRecDepth 20000

def Good (r : Rdr) : Prop := 0 ≤ r.at_ ∧ r.at_ ≤ r.s.length
/-- If all went well, what stood between the places is x. -/
def Eats (r : Rdr) (x : List UInt8) (r' : Rdr) : Prop := r'.e = 0 → r.e = 0 ∧ r'.s = r.s ∧ (Good r → Good r' ∧ r.s.drop r.at_.toNat = x ++ r.s.drop r'.at_.toNat)
theorem Eats.trans {r r1 r2 : Rdr} {x y : List UInt8} (h : Eats r x r1) (k : Eats r1 y r2) : Eats r (x ++ y) r2 := fun h0 => by
  obtain ⟨k1, k2, k3⟩ := k h0
  obtain ⟨h1, h2, h3⟩ := h k1
  refine ⟨h1, by rw [k2, h2], fun g => ?_⟩
  obtain ⟨g1, g2⟩ := h3 g
  obtain ⟨g3, g4⟩ := k3 g1
  refine ⟨g3, ?_⟩
  rw [g2, ← h2, g4, List.append_assoc]
theorem Eats.refl {r : Rdr} : Eats r [] r := fun h => ⟨h, rfl, fun g => ⟨g, rfl⟩⟩
theorem Eats.of_eq {r r' : Rdr} {x y : List UInt8} (h : Eats r x r') (e : y = x) : Eats r y r' := by subst e; exact h
theorem Eats.err {r r' : Rdr} {x : List UInt8} (h : r'.e ≠ 0) : Eats r x r' := fun h0 => absurd h0 h
theorem int_eats {r : Rdr} : Eats r (numS r.int.1) r.int.2 := by
  unfold Rdr.int
  split
  · rename_i h; exact Eats.err h
  · rename_i h
    intro h0
    dsimp only at h0 ⊢
    refine ⟨Classical.not_not.1 h, rfl, fun g => ?_⟩
    obtain ⟨g1, g2⟩ := g
    have hp := prog_num h0
    have e : numP r.s r.at_.toNat = ((numR r.s r.at_).1, (numR r.s r.at_).2.1, 0) := by
      have : numR r.s r.at_ = numP r.s r.at_.toNat := by rw [numR, if_neg (by omega)]
      rw [← this, ← h0]
    have h1 := num_once (by omega) e
    exact ⟨⟨by dsimp only; omega, by dsimp only; omega⟩, h1.1⟩
theorem text_eats {r : Rdr} : Eats r (textS r.text.1) r.text.2 := by
  unfold Rdr.text
  split
  · rename_i h; exact Eats.err h
  · rename_i h
    intro h0
    dsimp only at h0 ⊢
    refine ⟨Classical.not_not.1 h, rfl, fun g => ?_⟩
    obtain ⟨g1, g2⟩ := g
    have hp := prog_text h0
    have e : textP r.s r.at_.toNat = ((textR r.s r.at_).1, (textR r.s r.at_).2.1, 0) := by
      have : textR r.s r.at_ = textP r.s r.at_.toNat := by rw [textR, if_neg (by omega)]
      rw [← this, ← h0]
    have h1 := text_once (by omega) e
    exact ⟨⟨by dsimp only; omega, by dsimp only; omega⟩, h1.1⟩
theorem ints_eats {r : Rdr} : Eats r (laidAll numS r.ints.1) r.ints.2 := by
  unfold Rdr.ints
  split
  · rename_i h; exact Eats.err h
  · rename_i h
    intro h0
    dsimp only at h0 ⊢
    refine ⟨Classical.not_not.1 h, rfl, fun g => ?_⟩
    obtain ⟨g1, g2⟩ := g
    have hp : r.at_ < (intsR r.s r.at_).2.1 ∧ (intsR r.s r.at_).2.1 ≤ r.s.length := readR_prog h0
    have e : readR (numP r.s) r.s ((r.at_.toNat : Nat) : Int) = ((intsR r.s r.at_).1, (intsR r.s r.at_).2.1, 0) := by
      rw [show ((r.at_.toNat : Nat) : Int) = r.at_ by omega, ← h0]
    have h1 := list_once (f := numS) (pr := fun n => -9223372036854775808 ≤ n ∧ n ≤ 9223372036854775807) (fun p a nx hp h => num_once hp h) (by omega) e
    exact ⟨⟨by dsimp only; omega, by dsimp only; omega⟩, h1.1⟩
theorem dig_eats {r : Rdr} : Eats r (digS r.dig.1) r.dig.2 := by
  have h := text_eats (r := r)
  intro h0
  simp only [Rdr.dig] at h0 ⊢
  split at h0
  · simp at h0
  · rename_i hc
    rw [if_neg hc]
    have hd : (digOf r.text.1).2 = 0 := Classical.byContradiction fun hd => hc ⟨h0, hd⟩
    have hl : (digOf r.text.1).1.l = r.text.1 := by
      unfold digOf at hd ⊢
      split
      · rfl
      · rename_i h32; rw [dif_neg h32] at hd; dsimp only at hd; split at hd <;> simp at hd
    rw [digS, hl]
    exact h h0
theorem pend_eats {r : Rdr} : Eats r (pendB r.pend.1) r.pend.2 :=
  (int_eats.trans (int_eats.trans (int_eats.trans (int_eats.trans (dig_eats.trans dig_eats))))).of_eq (by simp [pendB, Rdr.pend])
theorem pends_eats : ∀ {k : Nat} {r : Rdr}, Eats r ((Rdr.pends k r).1.flatMap pendB) (Rdr.pends k r).2 ∧ ((Rdr.pends k r).2.e = 0 → (Rdr.pends k r).1.length = k)
  | 0, r => ⟨Eats.refl, fun _ => rfl⟩
  | k + 1, r => by
    by_cases he : r.e = 0
    · have e : Rdr.pends (k + 1) r = (r.pend.1 :: (Rdr.pends k r.pend.2).1, (Rdr.pends k r.pend.2).2) := by rw [Rdr.pends, if_neg (by simp [he])]
      obtain ⟨h1, h2⟩ := pends_eats (k := k) (r := r.pend.2)
      rw [e]
      exact ⟨(pend_eats.trans h1).of_eq (by simp), fun h0 => by simp [h2 h0]⟩
    · rw [pends_err he]
      exact ⟨Eats.err he, fun h0 => absurd h0 he⟩
theorem rep_eats {r : Rdr} : Eats r (ansB r.rep.1) r.rep.2 := by
  have hrep : r.rep = Rdr.rep2 { r.rep1.1 with pending := (Rdr.pends r.rep1.2.1.toNat r.rep1.2.2).1 } (Rdr.pends r.rep1.2.1.toNat r.rep1.2.2).2 := rfl
  obtain ⟨hp1, hp2⟩ := pends_eats (k := r.rep1.2.1.toNat) (r := r.rep1.2.2)
  by_cases hc : r.rep1.2.2.e = 0
  · have e2 : r.rep1.2.2 = if r.int.2.int.2.text.2.dig.2.int.2.e = 0 ∧ ¬ In 0 8 r.int.2.int.2.text.2.dig.2.int.1 then { r.int.2.int.2.text.2.dig.2.int.2 with e := 6 } else r.int.2.int.2.text.2.dig.2.int.2 := rfl
    have e3 : r.rep1.2.1 = r.int.2.int.2.text.2.dig.2.int.1 := rfl
    have hb : ¬ (r.int.2.int.2.text.2.dig.2.int.2.e = 0 ∧ ¬ In 0 8 r.int.2.int.2.text.2.dig.2.int.1) := fun h => by rw [if_pos h] at e2; rw [e2] at hc; simp at hc
    rw [if_neg hb] at e2
    rw [e2] at hc
    have hin : In 0 8 r.int.2.int.2.text.2.dig.2.int.1 := Classical.byContradiction fun h => hb ⟨hc, h⟩
    have h1 : Eats r (numS r.int.1 ++ (numS r.int.2.int.1 ++ (textS r.int.2.int.2.text.1 ++ (digS r.int.2.int.2.text.2.dig.1 ++ numS r.rep1.2.1)))) r.rep1.2.2 := by
      rw [e2, e3]
      exact int_eats.trans (int_eats.trans (text_eats.trans (dig_eats.trans int_eats)))
    generalize hP : Rdr.pends r.rep1.2.1.toNat r.rep1.2.2 = P at hp1 hp2 hrep
    have h2 : Eats P.2 (numS P.2.int.1 ++ (textS P.2.int.2.text.1 ++ (digS P.2.int.2.text.2.dig.1 ++ (textS P.2.int.2.text.2.dig.2.text.1 ++ digS P.2.int.2.text.2.dig.2.text.2.dig.1)))) P.2.int.2.text.2.dig.2.text.2.dig.2 :=
      int_eats.trans (text_eats.trans (dig_eats.trans (text_eats.trans dig_eats)))
    have h3 := h1.trans (hp1.trans h2)
    intro h0
    have hr2 : r.rep.2 = P.2.int.2.text.2.dig.2.text.2.dig.2 := by rw [hrep]; rfl
    have hP0 : P.2.e = 0 := (h2 (by rw [← hr2]; exact h0)).1
    have hlen := hp2 hP0
    have hnum : numS r.rep1.2.1 = numS (P.1.length : Int) := by
      rw [hlen, e3]; congr 1; simp only [In] at hin; omega
    have e4 : ansB r.rep.1 = numS r.int.1 ++ (numS r.int.2.int.1 ++ (textS r.int.2.int.2.text.1 ++ (digS r.int.2.int.2.text.2.dig.1 ++ numS (P.1.length : Int)))) ++ (P.1.flatMap pendB ++ (numS P.2.int.1 ++ (textS P.2.int.2.text.1 ++ (digS P.2.int.2.text.2.dig.1 ++ (textS P.2.int.2.text.2.dig.2.text.1 ++ digS P.2.int.2.text.2.dig.2.text.2.dig.1))))) := by
      rw [hrep]; simp [ansB, Rdr.rep2, Rdr.rep1]
    rw [hr2] at h0 ⊢
    rw [e4, ← hnum]
    exact h3 h0
  · have e : Rdr.pends r.rep1.2.1.toNat r.rep1.2.2 = ([], r.rep1.2.2) := pends_err hc
    have herr : ∀ r' : Rdr, r'.e ≠ 0 → (Rdr.rep2 { r.rep1.1 with pending := [] } r').2.e ≠ 0 := fun r' h => by
      simp [Rdr.rep2, Rdr.int, Rdr.text, Rdr.dig, h]
    rw [hrep, e]
    exact Eats.err (herr _ hc)
end Go.Aff.L10

/- Layer 10: what is read as a message is laid as it was. -/
namespace Go.Aff.L10
open Go.Proofs Go.Aff Go.Aff.L01 Classical
set_option linter.unusedVariables false
set_option linter.unusedSimpArgs false
set_option maxRecDepth 20000

theorem fields_kc {r : Rdr} {m : Msg} : (r.fields m).1.kind = m.kind ∧ (r.fields m).1.client = m.client := by
  unfold Rdr.fields
  repeat' split
  all_goals exact ⟨rfl, rfl⟩
theorem fields_eats {r : Rdr} {n c : Int} : Eats r (r.fields (getM n c)).1.rest (r.fields (getM n c)).2 := by
  rcases kinds_all n with hq | hq | hq | hq | hq | hq | hq | hq | hq | hq | hq
  · subst hq
    simp only [Rdr.fields, getM, Msg.rest, Int.reduceEq, if_true, if_false, or_self, or_true, true_or, false_or, or_false]
    exact (int_eats.trans (int_eats.trans (int_eats.trans (text_eats.trans (dig_eats.trans dig_eats))))).of_eq (by simp [subB])
  · subst hq
    simp only [Rdr.fields, getM, Msg.rest, Int.reduceEq, if_true, if_false, or_self, or_true, true_or, false_or, or_false]
    exact rep_eats
  · subst hq
    simp only [Rdr.fields, getM, Msg.rest, Int.reduceEq, if_true, if_false, or_self, or_true, true_or, false_or, or_false]
    exact (text_eats.trans dig_eats).of_eq (by simp)
  · subst hq
    simp only [Rdr.fields, getM, Msg.rest, Int.reduceEq, if_true, if_false, or_self, or_true, true_or, false_or, or_false]
    exact (int_eats.trans (int_eats.trans (text_eats.trans dig_eats))).of_eq (by simp [blobB])
  · subst hq
    simp only [Rdr.fields, getM, Msg.rest, Int.reduceEq, if_true, if_false, or_self, or_true, true_or, false_or, or_false]
    exact (int_eats.trans (int_eats.trans (text_eats.trans dig_eats))).of_eq (by simp [blobB])
  · subst hq
    simp only [Rdr.fields, getM, Msg.rest, Int.reduceEq, if_true, if_false, or_self, or_true, true_or, false_or, or_false]
    exact ints_eats
  · subst hq
    simp only [Rdr.fields, getM, Msg.rest, Int.reduceEq, if_true, if_false, or_self, or_true, true_or, false_or, or_false]
    exact ints_eats
  · subst hq
    simp only [Rdr.fields, getM, Msg.rest, Int.reduceEq, if_true, if_false, or_self, or_true, true_or, false_or, or_false]
    exact ints_eats
  · subst hq
    simp only [Rdr.fields, getM, Msg.rest, Int.reduceEq, if_true, if_false, or_self, or_true, true_or, false_or, or_false]
    exact (int_eats.trans (text_eats.trans (dig_eats.trans dig_eats))).of_eq (by simp)
  · subst hq
    simp only [Rdr.fields, getM, Msg.rest, Int.reduceEq, if_true, if_false, or_self, or_true, true_or, false_or, or_false]
    exact dig_eats.of_eq (by simp)
  · obtain ⟨h1, h2, h3, h4, h6, h5, h7, h8, h10, h11⟩ := hq
    simp only [Rdr.fields, getM, Msg.rest, h1, h2, h3, h4, h5, h6, h7, h8, h10, h11, if_false, or_self]
    exact Eats.refl
theorem get_once {s : List UInt8} (h : (getR s).2 = 0) : (getR s).1.Ok ∧ (getR s).1.bytes = s := by
  have hA : Eats ⟨s, 0, 0⟩ (numS (getA s).1) (getA s).2 := by
    simp only [getA]
    split
    · exact Eats.err (by simp)
    · exact int_eats
  have hB : Eats (getA s).2 (if (getA s).1 = 2 ∨ (getA s).1 = 4 ∨ (getA s).1 = 6 then [] else numS (getB (getA s)).1) (getB (getA s)).2 := by
    unfold getB
    split
    · exact Eats.refl
    · exact int_eats
  have hC : Eats (getB (getA s)).2 (getC s).1.rest (getC s).2 := fields_eats
  have hk : (getC s).1.kind = (getA s).1 ∧ (getC s).1.client = (getB (getA s)).1 := fields_kc
  have hT := hA.trans (hB.trans hC)
  unfold getR at h ⊢
  split
  · rename_i he; rw [if_pos he] at h; exact absurd h he
  · rename_i he
    rw [if_neg he] at h
    split
    · rename_i hb; rw [if_pos hb] at h; simp at h
    · rename_i hb
      have he : (getC s).2.e = 0 := Classical.not_not.1 he
      have hok : (getC s).1.Ok := Classical.byContradiction fun hn => hb (.inr hn)
      have hat : ¬ (getC s).2.at_ < s.length := fun hn => hb (.inl hn)
      refine ⟨hok, ?_⟩
      obtain ⟨_, hs, hg⟩ := hT he
      obtain ⟨⟨g1, g2⟩, g3⟩ := hg ⟨by simp, by simp⟩
      rw [hs] at g2
      dsimp only at g2 g3
      have hd : s.drop (getC s).2.at_.toNat = [] := List.drop_eq_nil_of_le (by omega)
      rw [hd, List.append_nil] at g3
      simp only [Msg.bytes, hk.1, hk.2]
      simp at g3
      simp only [List.flatMap_cons, List.flatMap_nil, List.append_nil, List.append_assoc]
      exact g3.symm
end Go.Aff.L10

/- Layer 10: what an argument's shape says of a message. -/
namespace Go.Aff.L10
open Go.Proofs Go.Aff Go.Aff.L01 Classical
set_option linter.unusedVariables false
set_option maxRecDepth 20000

theorem sh_ints {n : Nat} {v : AV} (h : ShT Try.prog (n + 2) 31 v) : ∃ (tk : Tk) (l : List Int), v = .slice tk (l.map (AV.int .i64)) := by
  obtain ⟨tk, xs, rfl, e⟩ := sh_slice (n := n + 1) (t := 31) Try.underlying31 h
  obtain ⟨l, rfl, _⟩ := map_of (f := AV.int .i64) (p := fun _ => True) (fun x hx => by obtain ⟨i, rfl, _, _⟩ := sh_int (n := n) (t := 3) Try.underlying3 (e x hx); exact ⟨i, rfl, trivial⟩)
  exact ⟨tk, l, rfl⟩
theorem sh_pend {n : Nat} {v : AV} (h : ShT Try.prog (n + 9) 98 v) : ∃ y : Pend, v = pendV y ∧ True := by
  obtain ⟨ps, rfl, hps⟩ := sh_struct (n := n + 8) Try.underlying98 h
  obtain ⟨p0, r, rfl, h0, hps⟩ := shTs_cons (n := n + 7) hps
  obtain ⟨p1, r, rfl, h1, hps⟩ := shTs_cons (n := n + 6) hps
  obtain ⟨p2, r, rfl, h2, hps⟩ := shTs_cons (n := n + 5) hps
  obtain ⟨p3, r, rfl, h3, hps⟩ := shTs_cons (n := n + 4) hps
  obtain ⟨p4, r, rfl, h4, hps⟩ := shTs_cons (n := n + 3) hps
  obtain ⟨p5, r, rfl, h5, hps⟩ := shTs_cons (n := n + 2) hps
  obtain rfl := shTs_nil hps
  obtain ⟨a, rfl, _, _⟩ := sh_int (t := 3) Try.underlying3 h0
  obtain ⟨b, rfl, _, _⟩ := sh_int (t := 3) Try.underlying3 h1
  obtain ⟨c, rfl, _, _⟩ := sh_int (t := 3) Try.underlying3 h2
  obtain ⟨d, rfl, _, _⟩ := sh_int (t := 3) Try.underlying3 h3
  obtain ⟨e, rfl⟩ := sh_dig (t := 23) Try.underlying23 h4
  obtain ⟨f, rfl⟩ := sh_dig (t := 23) Try.underlying23 h5
  exact ⟨⟨a, b, c, d, e, f⟩, rfl, trivial⟩
theorem sh_sub {n : Nat} {v : AV} (h : ShT Try.prog (n + 9) 25 v) : ∃ y : Sub, v = subV y := by
  obtain ⟨ps, rfl, hps⟩ := sh_struct (n := n + 8) Try.underlying25 h
  obtain ⟨p0, r, rfl, h0, hps⟩ := shTs_cons (n := n + 7) hps
  obtain ⟨p1, r, rfl, h1, hps⟩ := shTs_cons (n := n + 6) hps
  obtain ⟨p2, r, rfl, h2, hps⟩ := shTs_cons (n := n + 5) hps
  obtain ⟨p3, r, rfl, h3, hps⟩ := shTs_cons (n := n + 4) hps
  obtain ⟨p4, r, rfl, h4, hps⟩ := shTs_cons (n := n + 3) hps
  obtain ⟨p5, r, rfl, h5, hps⟩ := shTs_cons (n := n + 2) hps
  obtain rfl := shTs_nil hps
  obtain ⟨a, rfl, _, _⟩ := sh_int (t := 3) Try.underlying3 h0
  obtain ⟨b, rfl, _, _⟩ := sh_int (t := 3) Try.underlying3 h1
  obtain ⟨c, rfl, _, _⟩ := sh_int (t := 3) Try.underlying3 h2
  obtain ⟨d, rfl⟩ := sh_str (t := 9) Try.underlying9 h3
  obtain ⟨e, rfl⟩ := sh_dig (t := 23) Try.underlying23 h4
  obtain ⟨f, rfl⟩ := sh_dig (t := 23) Try.underlying23 h5
  exact ⟨⟨a, b, c, d, e, f⟩, rfl⟩
theorem sh_blob {n : Nat} {v : AV} (h : ShT Try.prog (n + 9) 30 v) : ∃ y : Blob, v = blobV y := by
  obtain ⟨ps, rfl, hps⟩ := sh_struct (n := n + 8) Try.underlying30 h
  obtain ⟨p0, r, rfl, h0, hps⟩ := shTs_cons (n := n + 7) hps
  obtain ⟨p1, r, rfl, h1, hps⟩ := shTs_cons (n := n + 6) hps
  obtain ⟨p2, r, rfl, h2, hps⟩ := shTs_cons (n := n + 5) hps
  obtain ⟨p3, r, rfl, h3, hps⟩ := shTs_cons (n := n + 4) hps
  obtain rfl := shTs_nil hps
  obtain ⟨a, rfl, _, _⟩ := sh_int (t := 3) Try.underlying3 h0
  obtain ⟨b, rfl, _, _⟩ := sh_int (t := 3) Try.underlying3 h1
  obtain ⟨c, rfl⟩ := sh_str (t := 9) Try.underlying9 h2
  obtain ⟨e, rfl⟩ := sh_dig (t := 23) Try.underlying23 h3
  exact ⟨⟨a, b, c, e⟩, rfl⟩
theorem sh_rep {n : Nat} {v : AV} (h : ShT Try.prog (n + 18) 28 v) : ∃ (t : Tk) (y : Rep), v = repV t y := by
  obtain ⟨ps, rfl, hps⟩ := sh_struct (n := n + 17) Try.underlying28 h
  obtain ⟨p0, r, rfl, h0, hps⟩ := shTs_cons (n := n + 16) hps
  obtain ⟨p1, r, rfl, h1, hps⟩ := shTs_cons (n := n + 15) hps
  obtain ⟨p2, r, rfl, h2, hps⟩ := shTs_cons (n := n + 14) hps
  obtain ⟨p3, r, rfl, h3, hps⟩ := shTs_cons (n := n + 13) hps
  obtain ⟨p4, r, rfl, h4, hps⟩ := shTs_cons (n := n + 12) hps
  obtain ⟨p5, r, rfl, h5, hps⟩ := shTs_cons (n := n + 11) hps
  obtain ⟨p6, r, rfl, h6, hps⟩ := shTs_cons (n := n + 10) hps
  obtain ⟨p7, r, rfl, h7, hps⟩ := shTs_cons (n := n + 9) hps
  obtain ⟨p8, r, rfl, h8, hps⟩ := shTs_cons (n := n + 8) hps
  obtain ⟨p9, r, rfl, h9, hps⟩ := shTs_cons (n := n + 7) hps
  obtain rfl := shTs_nil hps
  obtain ⟨a, rfl, _, _⟩ := sh_int (t := 3) Try.underlying3 h0
  obtain ⟨b, rfl, _, _⟩ := sh_int (t := 3) Try.underlying3 h1
  obtain ⟨c, rfl⟩ := sh_str (t := 9) Try.underlying9 h2
  obtain ⟨d, rfl⟩ := sh_dig (t := 23) Try.underlying23 h3
  obtain ⟨tk, xs, rfl, e⟩ := sh_slice (n := n + 11) (t := 26) Try.underlying26 h4
  obtain ⟨l, rfl, _⟩ := map_of (f := pendV) (p := fun _ => True) (fun x hx => sh_pend (n := n + 2) (e x hx))
  obtain ⟨f, rfl, _, _⟩ := sh_int (t := 3) Try.underlying3 h5
  obtain ⟨g, rfl⟩ := sh_str (t := 9) Try.underlying9 h6
  obtain ⟨k, rfl⟩ := sh_dig (t := 23) Try.underlying23 h7
  obtain ⟨i, rfl⟩ := sh_str (t := 9) Try.underlying9 h8
  obtain ⟨j, rfl⟩ := sh_dig (t := 23) Try.underlying23 h9
  exact ⟨tk, ⟨a, b, c, d, l, f, g, k, i, j⟩, rfl⟩
theorem sh_msg {v : AV} (h : ShT Try.prog 30 33 v) : ∃ (t u : Tk) (m : Msg), v = msgV t u m ∧ Rng m.by_ := by
  obtain ⟨ps, rfl, hps⟩ := sh_struct (n := 29) Try.underlying33 h
  obtain ⟨p0, r, rfl, h0, hps⟩ := shTs_cons (n := 28) hps
  obtain ⟨p1, r, rfl, h1, hps⟩ := shTs_cons (n := 27) hps
  obtain ⟨p2, r, rfl, h2, hps⟩ := shTs_cons (n := 26) hps
  obtain ⟨p3, r, rfl, h3, hps⟩ := shTs_cons (n := 25) hps
  obtain ⟨p4, r, rfl, h4, hps⟩ := shTs_cons (n := 24) hps
  obtain ⟨p5, r, rfl, h5, hps⟩ := shTs_cons (n := 23) hps
  obtain ⟨p6, r, rfl, h6, hps⟩ := shTs_cons (n := 22) hps
  obtain ⟨p7, r, rfl, h7, hps⟩ := shTs_cons (n := 21) hps
  obtain ⟨p8, r, rfl, h8, hps⟩ := shTs_cons (n := 20) hps
  obtain ⟨p9, r, rfl, h9, hps⟩ := shTs_cons (n := 19) hps
  obtain rfl := shTs_nil hps
  obtain ⟨a, rfl, _, _⟩ := sh_int (t := 3) Try.underlying3 h0
  obtain ⟨b, rfl, _, _⟩ := sh_int (t := 3) Try.underlying3 h1
  obtain ⟨c, rfl⟩ := sh_sub (n := 17) h2
  obtain ⟨t, d, rfl⟩ := sh_rep (n := 7) h3
  obtain ⟨e, rfl⟩ := sh_str (t := 9) Try.underlying9 h4
  obtain ⟨f, rfl, f1, f2⟩ := sh_int (t := 3) Try.underlying3 h5
  obtain ⟨g, rfl⟩ := sh_dig (t := 23) Try.underlying23 h6
  obtain ⟨k, rfl⟩ := sh_dig (t := 23) Try.underlying23 h7
  obtain ⟨i, rfl⟩ := sh_blob (n := 11) h8
  obtain ⟨u, l, rfl⟩ := sh_ints (n := 17) h9
  exact ⟨t, u, ⟨a, b, c, d, e, f, g, k, i, l⟩, rfl, f1, f2⟩
end Go.Aff.L10

/- Layer 10, walked: MsgBack. -/
-- cuts
namespace Go.Aff.L10
open Go.Proofs Go.Aff Go.Aff.L01 Classical
set_option linter.unusedVariables false
set_option linter.unusedSimpArgs false
set_option maxRecDepth 20000
attribute [local go_sem] push_app app_app length_app cellAt_app cellAt_app0 set_app set_app0 objs_app objs_app0 List.cons_append List.nil_append List.length_cons List.length_nil List.getElem?_cons_zero List.getElem?_cons_succ List.set_cons_zero List.set_cons_succ List.length_map
attribute [-go_sem] cellAt_new
attribute [-simp] List.length_flatMap
attribute [local go_sem] Try.underlying3 Try.underlying4 Try.underlying5 Try.underlying9 Try.underlying22 Try.underlying23 Try.underlying26 Try.underlying31 Try.underlying34 Try.underlying52 subPs_0 subAt_0 subSet_0 subPs_1 subAt_1 subSet_1 subPs_2 subAt_2 subSet_2 subPs_3 subAt_3 subSet_3 subPs_4 subAt_4 subSet_4 subPs_5 subAt_5 subSet_5 sizes_sub shapes_sub fits_sub zero_sub zt_sub built_sub Try.underlying25 pendPs_0 pendAt_0 pendSet_0 pendPs_1 pendAt_1 pendSet_1 pendPs_2 pendAt_2 pendSet_2 pendPs_3 pendAt_3 pendSet_3 pendPs_4 pendAt_4 pendSet_4 pendPs_5 pendAt_5 pendSet_5 sizes_pend shapes_pend fits_pend zero_pend zt_pend built_pend Try.underlying98 repPs_0 repAt_0 repSet_0 repPs_1 repAt_1 repSet_1 repPs_2 repAt_2 repSet_2 repPs_3 repAt_3 repSet_3 repPs_4 repAt_4 repSet_4 repPs_5 repAt_5 repSet_5 repPs_6 repAt_6 repSet_6 repPs_7 repAt_7 repSet_7 repPs_8 repAt_8 repSet_8 repPs_9 repAt_9 repSet_9 sizes_rep shapes_rep fits_rep zero_rep zt_rep built_rep Try.underlying28 blobPs_0 blobAt_0 blobSet_0 blobPs_1 blobAt_1 blobSet_1 blobPs_2 blobAt_2 blobSet_2 blobPs_3 blobAt_3 blobSet_3 sizes_blob shapes_blob fits_blob zero_blob zt_blob built_blob Try.underlying30 msgPs_0 msgAt_0 msgSet_0 msgPs_1 msgAt_1 msgSet_1 msgPs_2 msgAt_2 msgSet_2 msgPs_3 msgAt_3 msgSet_3 msgPs_4 msgAt_4 msgSet_4 msgPs_5 msgAt_5 msgSet_5 msgPs_6 msgAt_6 msgSet_6 msgPs_7 msgAt_7 msgSet_7 msgPs_8 msgAt_8 msgSet_8 msgPs_9 msgAt_9 msgSet_9 sizes_msg shapes_msg fits_msg zero_msg zt_msg built_msg Try.underlying33 at_Ps_0 at_At_0 at_Set_0 at_Ps_1 at_At_1 at_Set_1 sizes_at_ shapes_at_ fits_at_ zero_at_ zt_at_ built_at_ Try.underlying77
attribute [local go_sem] fits3 fits4 fits5 fits9 fits23 fits26 fits31 fits34 fits52 zt3 zero3 zt34 zero34 zt23 zero23 bin_sub_eql bin_pend_eql bin_pend_neq bin_blob_eql bin_dig23_eql bin_dig23_neq slice23
attribute [local go_sem ↓] blockQ_exit2
attribute [local simp] dig_ext
attribute [local go_sem] rdrPs_0 rdrAt_0 rdrSet_0 rdrPs_1 rdrAt_1 rdrSet_1 rdrPs_2 rdrAt_2 rdrSet_2 sizes_rdr shapes_rdr fits_rdr zero_rdr zt_rdr built_rdr Try.underlying72 Try.underlying70 Try.underlying75 bin_bool_ne appc appn built23
attribute [local go_sem] msgSet_9s slV_eq
attribute [local go_sem ↓] res_cc
theorem msgBack_c {m : Msg} {t u : Tk} {l : List UInt8} {σ : AST} {K : AV → AST → Prop} (hK : K (.bool true) σ) : TCalls Try.prog 5 [msgV t u m, .str l] σ K := by
  refine TCalls.drop ?_
  refine tcalls_walk Try.f5 _ [.tmp 4] Try.func5 rfl rfl rfl mixed (Nat.le_of_ble_eq_true rfl) rfl fun hlen => ?_
  simp -dsimp only [↓reduceIte, go_sem]
  refine put_c ?_
  have hg : (getR l).2 = 0 → (getR l).1.Ok ∧ (getR l).1.bytes = l := get_once
  by_cases hok : m.Ok
  · rw [if_pos hok]
    repeat' (first | (simp -dsimp only [↓reduceIte, go_sem]) | (refine arr_intro fun _ => ?_) | (refine later_intro ⟨keeps_nil, ?_⟩) | (refine later_intro ⟨keeps_refl, ?_⟩) | (with_reducible refine keeps_go ?_ ?_; focus (first | (simp [keeps_cons, keeps_none, objs_app, objs_app0]; done) | (simp only [keeps_cons, keeps_none, objs_app0, objs_app, and_true]; first | rfl | exact ⟨rfl, rfl⟩ | exact ⟨rfl, rfl, rfl⟩))) | (with_reducible refine (And.intro (a := keeps _ _ _) ?_ ?_); focus (first | (simp [keeps_cons, keeps_none, objs_app, objs_app0]; done) | (simp only [keeps_cons, keeps_none, objs_app0, objs_app, and_true]; first | rfl | exact ⟨rfl, rfl⟩ | exact ⟨rfl, rfl, rfl⟩))) | (refine both_ways ?_ ?_) | (rw [wrap_i64 (by omega) (by omega)]) | (refine guardV_split (fun h => ?_) (fun h => ?_) <;> (try rw [h]) <;> (try simp at h) <;> (try (exfalso; omega))))
    refine get_c fun t2 u2 => ?_
    rw [get_back hok]
    repeat' (first | (simp -dsimp only [↓reduceIte, go_sem]) | (refine arr_intro fun _ => ?_) | (refine later_intro ⟨keeps_nil, ?_⟩) | (refine later_intro ⟨keeps_refl, ?_⟩) | (with_reducible refine keeps_go ?_ ?_; focus (first | (simp [keeps_cons, keeps_none, objs_app, objs_app0]; done) | (simp only [keeps_cons, keeps_none, objs_app0, objs_app, and_true]; first | rfl | exact ⟨rfl, rfl⟩ | exact ⟨rfl, rfl, rfl⟩))) | (with_reducible refine (And.intro (a := keeps _ _ _) ?_ ?_); focus (first | (simp [keeps_cons, keeps_none, objs_app, objs_app0]; done) | (simp only [keeps_cons, keeps_none, objs_app0, objs_app, and_true]; first | rfl | exact ⟨rfl, rfl⟩ | exact ⟨rfl, rfl, rfl⟩))) | (refine both_ways ?_ ?_) | (rw [wrap_i64 (by omega) (by omega)]) | (refine guardV_split (fun h => ?_) (fun h => ?_) <;> (try rw [h]) <;> (try simp at h) <;> (try (exfalso; omega))) | (refine refSame_c ?_) | (refine awake_c ?_))
    · (first | exact ⟨Ext.app _ _, rfl, by simpa [AV.strip] using hK⟩ | exact ⟨Ext.refl _, rfl, by simpa [AV.strip] using hK⟩)
    · refine get_c fun t3 u3 => ?_
      generalize getR l = G at hg
      obtain ⟨x, e⟩ := G
      dsimp only at hg ⊢
      by_cases he : e = 0
      · obtain ⟨h1, h2⟩ := hg he
        subst he
        repeat' (first | (simp -dsimp only [↓reduceIte, go_sem]) | (refine arr_intro fun _ => ?_) | (refine later_intro ⟨keeps_nil, ?_⟩) | (refine later_intro ⟨keeps_refl, ?_⟩) | (with_reducible refine keeps_go ?_ ?_; focus (first | (simp [keeps_cons, keeps_none, objs_app, objs_app0]; done) | (simp only [keeps_cons, keeps_none, objs_app0, objs_app, and_true]; first | rfl | exact ⟨rfl, rfl⟩ | exact ⟨rfl, rfl, rfl⟩))) | (with_reducible refine (And.intro (a := keeps _ _ _) ?_ ?_); focus (first | (simp [keeps_cons, keeps_none, objs_app, objs_app0]; done) | (simp only [keeps_cons, keeps_none, objs_app0, objs_app, and_true]; first | rfl | exact ⟨rfl, rfl⟩ | exact ⟨rfl, rfl, rfl⟩))) | (refine both_ways ?_ ?_) | (rw [wrap_i64 (by omega) (by omega)]) | (refine guardV_split (fun h => ?_) (fun h => ?_) <;> (try rw [h]) <;> (try simp at h) <;> (try (exfalso; omega))) | (refine awake_c ?_))
        refine put_c (m := x) ?_
        rw [if_pos h1, h2]
        repeat' (first | (simp -dsimp only [↓reduceIte, go_sem]) | (refine arr_intro fun _ => ?_) | (refine later_intro ⟨keeps_nil, ?_⟩) | (refine later_intro ⟨keeps_refl, ?_⟩) | (with_reducible refine keeps_go ?_ ?_; focus (first | (simp [keeps_cons, keeps_none, objs_app, objs_app0]; done) | (simp only [keeps_cons, keeps_none, objs_app0, objs_app, and_true]; first | rfl | exact ⟨rfl, rfl⟩ | exact ⟨rfl, rfl, rfl⟩))) | (with_reducible refine (And.intro (a := keeps _ _ _) ?_ ?_); focus (first | (simp [keeps_cons, keeps_none, objs_app, objs_app0]; done) | (simp only [keeps_cons, keeps_none, objs_app0, objs_app, and_true]; first | rfl | exact ⟨rfl, rfl⟩ | exact ⟨rfl, rfl, rfl⟩))) | (refine both_ways ?_ ?_) | (rw [wrap_i64 (by omega) (by omega)]) | (refine guardV_split (fun h => ?_) (fun h => ?_) <;> (try rw [h]) <;> (try simp at h) <;> (try (exfalso; omega))) | (refine awake_c ?_))
        all_goals (first | exact ⟨Ext.app _ _, rfl, by simpa [AV.strip] using hK⟩ | exact ⟨Ext.refl _, rfl, by simpa [AV.strip] using hK⟩)
      · repeat' (first | (simp -dsimp only [↓reduceIte, go_sem, he]) | (refine arr_intro fun _ => ?_) | (refine later_intro ⟨keeps_nil, ?_⟩) | (refine later_intro ⟨keeps_refl, ?_⟩) | (with_reducible refine keeps_go ?_ ?_; focus (first | (simp [keeps_cons, keeps_none, objs_app, objs_app0]; done) | (simp only [keeps_cons, keeps_none, objs_app0, objs_app, and_true]; first | rfl | exact ⟨rfl, rfl⟩ | exact ⟨rfl, rfl, rfl⟩))) | (with_reducible refine (And.intro (a := keeps _ _ _) ?_ ?_); focus (first | (simp [keeps_cons, keeps_none, objs_app, objs_app0]; done) | (simp only [keeps_cons, keeps_none, objs_app0, objs_app, and_true]; first | rfl | exact ⟨rfl, rfl⟩ | exact ⟨rfl, rfl, rfl⟩))) | (refine both_ways ?_ ?_) | (rw [wrap_i64 (by omega) (by omega)]) | (refine guardV_split (fun h => ?_) (fun h => ?_) <;> (try rw [h]) <;> (try simp at h) <;> (try (exfalso; omega))) | (refine awake_c ?_))
        all_goals (first | exact ⟨Ext.app _ _, rfl, by simpa [AV.strip] using hK⟩ | exact ⟨Ext.refl _, rfl, by simpa [AV.strip] using hK⟩)
  · rw [if_neg hok]
    repeat' (first | (simp -dsimp only [↓reduceIte, go_sem]) | (refine arr_intro fun _ => ?_) | (refine later_intro ⟨keeps_nil, ?_⟩) | (refine later_intro ⟨keeps_refl, ?_⟩) | (with_reducible refine keeps_go ?_ ?_; focus (first | (simp [keeps_cons, keeps_none, objs_app, objs_app0]; done) | (simp only [keeps_cons, keeps_none, objs_app0, objs_app, and_true]; first | rfl | exact ⟨rfl, rfl⟩ | exact ⟨rfl, rfl, rfl⟩))) | (with_reducible refine (And.intro (a := keeps _ _ _) ?_ ?_); focus (first | (simp [keeps_cons, keeps_none, objs_app, objs_app0]; done) | (simp only [keeps_cons, keeps_none, objs_app0, objs_app, and_true]; first | rfl | exact ⟨rfl, rfl⟩ | exact ⟨rfl, rfl, rfl⟩))) | (refine both_ways ?_ ?_) | (rw [wrap_i64 (by omega) (by omega)]) | (refine guardV_split (fun h => ?_) (fun h => ?_) <;> (try rw [h]) <;> (try simp at h) <;> (try (exfalso; omega))) | (refine awake_c ?_))
    · (first | exact ⟨Ext.app _ _, rfl, by simpa [AV.strip] using hK⟩ | exact ⟨Ext.refl _, rfl, by simpa [AV.strip] using hK⟩)
    · refine get_c fun t3 u3 => ?_
      generalize getR l = G at hg
      obtain ⟨x, e⟩ := G
      dsimp only at hg ⊢
      by_cases he : e = 0
      · obtain ⟨h1, h2⟩ := hg he
        subst he
        repeat' (first | (simp -dsimp only [↓reduceIte, go_sem]) | (refine arr_intro fun _ => ?_) | (refine later_intro ⟨keeps_nil, ?_⟩) | (refine later_intro ⟨keeps_refl, ?_⟩) | (with_reducible refine keeps_go ?_ ?_; focus (first | (simp [keeps_cons, keeps_none, objs_app, objs_app0]; done) | (simp only [keeps_cons, keeps_none, objs_app0, objs_app, and_true]; first | rfl | exact ⟨rfl, rfl⟩ | exact ⟨rfl, rfl, rfl⟩))) | (with_reducible refine (And.intro (a := keeps _ _ _) ?_ ?_); focus (first | (simp [keeps_cons, keeps_none, objs_app, objs_app0]; done) | (simp only [keeps_cons, keeps_none, objs_app0, objs_app, and_true]; first | rfl | exact ⟨rfl, rfl⟩ | exact ⟨rfl, rfl, rfl⟩))) | (refine both_ways ?_ ?_) | (rw [wrap_i64 (by omega) (by omega)]) | (refine guardV_split (fun h => ?_) (fun h => ?_) <;> (try rw [h]) <;> (try simp at h) <;> (try (exfalso; omega))) | (refine awake_c ?_))
        refine put_c (m := x) ?_
        rw [if_pos h1, h2]
        repeat' (first | (simp -dsimp only [↓reduceIte, go_sem]) | (refine arr_intro fun _ => ?_) | (refine later_intro ⟨keeps_nil, ?_⟩) | (refine later_intro ⟨keeps_refl, ?_⟩) | (with_reducible refine keeps_go ?_ ?_; focus (first | (simp [keeps_cons, keeps_none, objs_app, objs_app0]; done) | (simp only [keeps_cons, keeps_none, objs_app0, objs_app, and_true]; first | rfl | exact ⟨rfl, rfl⟩ | exact ⟨rfl, rfl, rfl⟩))) | (with_reducible refine (And.intro (a := keeps _ _ _) ?_ ?_); focus (first | (simp [keeps_cons, keeps_none, objs_app, objs_app0]; done) | (simp only [keeps_cons, keeps_none, objs_app0, objs_app, and_true]; first | rfl | exact ⟨rfl, rfl⟩ | exact ⟨rfl, rfl, rfl⟩))) | (refine both_ways ?_ ?_) | (rw [wrap_i64 (by omega) (by omega)]) | (refine guardV_split (fun h => ?_) (fun h => ?_) <;> (try rw [h]) <;> (try simp at h) <;> (try (exfalso; omega))) | (refine awake_c ?_))
        all_goals (first | exact ⟨Ext.app _ _, rfl, by simpa [AV.strip] using hK⟩ | exact ⟨Ext.refl _, rfl, by simpa [AV.strip] using hK⟩)
      · repeat' (first | (simp -dsimp only [↓reduceIte, go_sem, he]) | (refine arr_intro fun _ => ?_) | (refine later_intro ⟨keeps_nil, ?_⟩) | (refine later_intro ⟨keeps_refl, ?_⟩) | (with_reducible refine keeps_go ?_ ?_; focus (first | (simp [keeps_cons, keeps_none, objs_app, objs_app0]; done) | (simp only [keeps_cons, keeps_none, objs_app0, objs_app, and_true]; first | rfl | exact ⟨rfl, rfl⟩ | exact ⟨rfl, rfl, rfl⟩))) | (with_reducible refine (And.intro (a := keeps _ _ _) ?_ ?_); focus (first | (simp [keeps_cons, keeps_none, objs_app, objs_app0]; done) | (simp only [keeps_cons, keeps_none, objs_app0, objs_app, and_true]; first | rfl | exact ⟨rfl, rfl⟩ | exact ⟨rfl, rfl, rfl⟩))) | (refine both_ways ?_ ?_) | (rw [wrap_i64 (by omega) (by omega)]) | (refine guardV_split (fun h => ?_) (fun h => ?_) <;> (try rw [h]) <;> (try simp at h) <;> (try (exfalso; omega))) | (refine awake_c ?_))
        all_goals (first | exact ⟨Ext.app _ _, rfl, by simpa [AV.strip] using hK⟩ | exact ⟨Ext.refl _, rfl, by simpa [AV.strip] using hK⟩)
end Go.Aff.L10

