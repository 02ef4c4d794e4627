import Derived.Test.YtipnjeciaagabaaG26
import Derived.Test.YtipnjeciaagabaaG20

set_option linter.unusedSimpArgs false
set_option linter.unusedVariables false

/- Layer 27: structs. -/
namespace Go.Aff.L10
open Go.Proofs Go.Aff Go.Aff.L01 Classical
set_option linter.unusedVariables false
set_option linter.unusedSimpArgs false
set_option maxRecDepth 20000
structure Snd where
  to : Int
  x : Msg
def snd0 : Snd := ⟨0, msg0⟩
def sndPs (t0 t1 : Tk) (x : Snd) : List AV := [.int .i64 x.to, .agg (msgPs t0 t1 x.x)]
abbrev sndV (t0 t1 : Tk) (x : Snd) : AV := .agg (sndPs t0 t1 x)
theorem sndPs_0 {t0 t1 : Tk} {x : Snd} : (sndPs t0 t1 x)[0]? = some (.int .i64 x.to) := nr rfl
theorem sndAt_0 {t0 t1 : Tk} {x : Snd} {v : AV} : partIs Try.prog 42 (sndPs t0 t1 x) 0 v = fits Try.prog 3 v := by rw [partIs_of (o := 0) (T := 3) (by kernel_rfl)]; simp [sndPs, AV.sizes, AV.size]
theorem sndSet_0 {t0 t1 : Tk} {x : Snd} {y : Int} : (sndPs t0 t1 x).set 0 (.int .i64 y) = sndPs t0 t1 { x with to := y } := nr rfl
theorem sndPs_1 {t0 t1 : Tk} {x : Snd} : (sndPs t0 t1 x)[1]? = some (.agg (msgPs t0 t1 x.x)) := nr rfl
theorem sndAt_1 {t0 t1 : Tk} {x : Snd} {v : AV} : partIs Try.prog 42 (sndPs t0 t1 x) 1 v = fits Try.prog 40 v := by rw [partIs_of (o := 1) (T := 40) (by kernel_rfl)]; simp [sndPs, AV.sizes, AV.size]
theorem sndSet_1 {t0 t1 : Tk} {u0 u1 : Tk} {x : Snd} {y : Msg} : (sndPs t0 t1 x).set 1 (.agg (msgPs u0 u1 y)) = sndPs u0 u1 { x with x := y } := nr rfl
theorem sizes_snd {t0 t1 : Tk} {x : Snd} : AV.sizes (sndPs t0 t1 x) = 276 := by simp [sndPs, AV.sizes, AV.size, sizes_msg]
theorem shapes_snd {t0 t1 : Tk} {x : Snd} : AV.shapes (sndPs t0 t1 x) = [.leaf, .node [.leaf, .leaf, .node [.leaf, .leaf, .leaf, .leaf, .dig, .dig], .node [.leaf, .leaf, .leaf, .dig, .leaf, .leaf, .leaf, .dig, .leaf, .dig], .leaf, .leaf, .dig, .dig, .node [.leaf, .leaf, .leaf, .dig], .leaf]] := by simp [sndPs, AV.shapes, AV.shape, shapes_msg]
theorem fits_snd {v : AV} : fits Try.prog 42 v = (v.isAgg = true ∧ v.size = 276) := fits_agg (by kernel_rfl) (by kernel_rfl)
theorem zero_snd : zeroA Try.prog 12 42 = .agg (sndPs .full .full snd0) := by kernel_rfl
theorem zt_snd : ZeroOf Try.prog 42 (.agg (sndPs .full .full snd0)) = True := eq_true ⟨_, _, rfl, rfl, rfl, rfl, rfl⟩
theorem built_snd : Built Try.prog 42 = True := eq_true (by unfold Built; rw [Try.underlying42]; decide +kernel)
structure Ask where
  kind : Int
  i : Int
  to : Int
  x : Snd
  b : List UInt8
def ask0 : Ask := ⟨0, 0, 0, snd0, []⟩
def askPs (t0 t1 : Tk) (x : Ask) : List AV := [.int .i64 x.kind, .int .i64 x.i, .int .i64 x.to, .agg (sndPs t0 t1 x.x), .str x.b]
abbrev askV (t0 t1 : Tk) (x : Ask) : AV := .agg (askPs t0 t1 x)
theorem askPs_0 {t0 t1 : Tk} {x : Ask} : (askPs t0 t1 x)[0]? = some (.int .i64 x.kind) := nr rfl
theorem askAt_0 {t0 t1 : Tk} {x : Ask} {v : AV} : partIs Try.prog 44 (askPs t0 t1 x) 0 v = fits Try.prog 3 v := by rw [partIs_of (o := 0) (T := 3) (by kernel_rfl)]; simp [askPs, AV.sizes, AV.size]
theorem askSet_0 {t0 t1 : Tk} {x : Ask} {y : Int} : (askPs t0 t1 x).set 0 (.int .i64 y) = askPs t0 t1 { x with kind := y } := nr rfl
theorem askPs_1 {t0 t1 : Tk} {x : Ask} : (askPs t0 t1 x)[1]? = some (.int .i64 x.i) := nr rfl
theorem askAt_1 {t0 t1 : Tk} {x : Ask} {v : AV} : partIs Try.prog 44 (askPs t0 t1 x) 1 v = fits Try.prog 3 v := by rw [partIs_of (o := 1) (T := 3) (by kernel_rfl)]; simp [askPs, AV.sizes, AV.size]
theorem askSet_1 {t0 t1 : Tk} {x : Ask} {y : Int} : (askPs t0 t1 x).set 1 (.int .i64 y) = askPs t0 t1 { x with i := y } := nr rfl
theorem askPs_2 {t0 t1 : Tk} {x : Ask} : (askPs t0 t1 x)[2]? = some (.int .i64 x.to) := nr rfl
theorem askAt_2 {t0 t1 : Tk} {x : Ask} {v : AV} : partIs Try.prog 44 (askPs t0 t1 x) 2 v = fits Try.prog 3 v := by rw [partIs_of (o := 2) (T := 3) (by kernel_rfl)]; simp [askPs, AV.sizes, AV.size]
theorem askSet_2 {t0 t1 : Tk} {x : Ask} {y : Int} : (askPs t0 t1 x).set 2 (.int .i64 y) = askPs t0 t1 { x with to := y } := nr rfl
theorem askPs_3 {t0 t1 : Tk} {x : Ask} : (askPs t0 t1 x)[3]? = some (.agg (sndPs t0 t1 x.x)) := nr rfl
theorem askAt_3 {t0 t1 : Tk} {x : Ask} {v : AV} : partIs Try.prog 44 (askPs t0 t1 x) 3 v = fits Try.prog 42 v := by rw [partIs_of (o := 3) (T := 42) (by kernel_rfl)]; simp [askPs, AV.sizes, AV.size]
theorem askSet_3 {t0 t1 : Tk} {u0 u1 : Tk} {x : Ask} {y : Snd} : (askPs t0 t1 x).set 3 (.agg (sndPs u0 u1 y)) = askPs u0 u1 { x with x := y } := nr rfl
theorem askPs_4 {t0 t1 : Tk} {x : Ask} : (askPs t0 t1 x)[4]? = some (.str x.b) := nr rfl
theorem askAt_4 {t0 t1 : Tk} {x : Ask} {v : AV} : partIs Try.prog 44 (askPs t0 t1 x) 4 v = fits Try.prog 9 v := by rw [partIs_of (o := 279) (T := 9) (by kernel_rfl)]; simp [askPs, AV.sizes, AV.size, sizes_snd]
theorem askSet_4 {t0 t1 : Tk} {x : Ask} {y : List UInt8} : (askPs t0 t1 x).set 4 (.str y) = askPs t0 t1 { x with b := y } := nr rfl
theorem sizes_ask {t0 t1 : Tk} {x : Ask} : AV.sizes (askPs t0 t1 x) = 280 := by simp [askPs, AV.sizes, AV.size, sizes_snd]
theorem shapes_ask {t0 t1 : Tk} {x : Ask} : AV.shapes (askPs t0 t1 x) = [.leaf, .leaf, .leaf, .node [.leaf, .node [.leaf, .leaf, .node [.leaf, .leaf, .leaf, .leaf, .dig, .dig], .node [.leaf, .leaf, .leaf, .dig, .leaf, .leaf, .leaf, .dig, .leaf, .dig], .leaf, .leaf, .dig, .dig, .node [.leaf, .leaf, .leaf, .dig], .leaf]], .leaf] := by simp [askPs, AV.shapes, AV.shape, shapes_snd]
theorem fits_ask {v : AV} : fits Try.prog 44 v = (v.isAgg = true ∧ v.size = 280) := fits_agg (by kernel_rfl) (by kernel_rfl)
theorem zero_ask : zeroA Try.prog 12 44 = .agg (askPs .full .full ask0) := by kernel_rfl
theorem zt_ask : ZeroOf Try.prog 44 (.agg (askPs .full .full ask0)) = True := eq_true ⟨_, _, rfl, rfl, rfl, rfl, rfl⟩
theorem built_ask : Built Try.prog 44 = True := eq_true (by unfold Built; rw [Try.underlying44]; decide +kernel)
structure Let where
  to : Int
  b : List UInt8
def let_0 : Let := ⟨0, []⟩
def let_Ps (x : Let) : List AV := [.int .i64 x.to, .str x.b]
abbrev let_V (x : Let) : AV := .agg (let_Ps x)
theorem let_Ps_0 {x : Let} : (let_Ps x)[0]? = some (.int .i64 x.to) := nr rfl
theorem let_At_0 {x : Let} {v : AV} : partIs Try.prog 74 (let_Ps x) 0 v = fits Try.prog 3 v := by rw [partIs_of (o := 0) (T := 3) (by kernel_rfl)]; simp [let_Ps, AV.sizes, AV.size]
theorem let_Set_0 {x : Let} {y : Int} : (let_Ps x).set 0 (.int .i64 y) = let_Ps { x with to := y } := nr rfl
theorem let_Ps_1 {x : Let} : (let_Ps x)[1]? = some (.str x.b) := nr rfl
theorem let_At_1 {x : Let} {v : AV} : partIs Try.prog 74 (let_Ps x) 1 v = fits Try.prog 9 v := by rw [partIs_of (o := 1) (T := 9) (by kernel_rfl)]; simp [let_Ps, AV.sizes, AV.size]
theorem let_Set_1 {x : Let} {y : List UInt8} : (let_Ps x).set 1 (.str y) = let_Ps { x with b := y } := nr rfl
theorem sizes_let_ {x : Let} : AV.sizes (let_Ps x) = 2 := by simp [let_Ps, AV.sizes, AV.size]
theorem shapes_let_ {x : Let} : AV.shapes (let_Ps x) = [.leaf, .leaf] := by simp [let_Ps, AV.shapes, AV.shape]
theorem fits_let_ {v : AV} : fits Try.prog 74 v = (v.isAgg = true ∧ v.size = 2) := fits_agg (by kernel_rfl) (by kernel_rfl)
theorem zero_let_ : zeroA Try.prog 12 74 = .agg (let_Ps let_0) := by kernel_rfl
theorem zt_let_ : ZeroOf Try.prog 74 (.agg (let_Ps let_0)) = True := eq_true ⟨_, _, rfl, rfl, rfl, rfl, rfl⟩
theorem built_let_ : Built Try.prog 74 = True := eq_true (by unfold Built; rw [Try.underlying74]; decide +kernel)
theorem strip_let_ {x : Let} : AV.strips (let_Ps x) = let_Ps x := by simp [let_Ps, AV.strips, AV.strip]
theorem noRef_let_ {x : Let} : AV.noRefs (let_Ps x) = true := by simp [let_Ps, AV.noRefs, AV.noRef]
structure Net where
  clients : Int
  letters : List Let
def net0 : Net := ⟨0, []⟩
def netPs (t0 : Tk) (x : Net) : List AV := [.int .i64 x.clients, .slice t0 (x.letters.map let_V)]
abbrev netV (t0 : Tk) (x : Net) : AV := .agg (netPs t0 x)
theorem netPs_0 {t0 : Tk} {x : Net} : (netPs t0 x)[0]? = some (.int .i64 x.clients) := nr rfl
theorem netAt_0 {t0 : Tk} {x : Net} {v : AV} : partIs Try.prog 71 (netPs t0 x) 0 v = fits Try.prog 3 v := by rw [partIs_of (o := 0) (T := 3) (by kernel_rfl)]; simp [netPs, AV.sizes, AV.size]
theorem netSet_0 {t0 : Tk} {x : Net} {y : Int} : (netPs t0 x).set 0 (.int .i64 y) = netPs t0 { x with clients := y } := nr rfl
theorem netPs_1 {t0 : Tk} {x : Net} : (netPs t0 x)[1]? = some (.slice t0 (x.letters.map let_V)) := nr rfl
theorem netAt_1 {t0 : Tk} {x : Net} {v : AV} : partIs Try.prog 71 (netPs t0 x) 1 v = fits Try.prog 69 v := by rw [partIs_of (o := 1) (T := 69) (by kernel_rfl)]; simp [netPs, AV.sizes, AV.size]
theorem netSet_1 {t0 : Tk} {u0 : Tk} {x : Net} {y : List Let} : (netPs t0 x).set 1 (.slice u0 (y.map let_V)) = netPs u0 { x with letters := y } := nr rfl
theorem sizes_net {t0 : Tk} {x : Net} : AV.sizes (netPs t0 x) = 2 := by simp [netPs, AV.sizes, AV.size]
theorem shapes_net {t0 : Tk} {x : Net} : AV.shapes (netPs t0 x) = [.leaf, .leaf] := by simp [netPs, AV.shapes, AV.shape]
theorem fits_net {v : AV} : fits Try.prog 71 v = (v.isAgg = true ∧ v.size = 2) := fits_agg (by kernel_rfl) (by kernel_rfl)
theorem zero_net : zeroA Try.prog 12 71 = .agg (netPs .full net0) := by kernel_rfl
theorem zt_net : ZeroOf Try.prog 71 (.agg (netPs .full net0)) = True := eq_true ⟨_, _, rfl, rfl, rfl, rfl, rfl⟩
theorem built_net : Built Try.prog 71 = True := eq_true (by unfold Built; rw [Try.underlying71]; decide +kernel)
structure RLet where
  to : Int
  b : List UInt8
def rlet0 : RLet := ⟨0, []⟩
def rletPs (x : RLet) : List AV := [.int .i64 x.to, .str x.b]
abbrev rletV (x : RLet) : AV := .agg (rletPs x)
theorem rletPs_0 {x : RLet} : (rletPs x)[0]? = some (.int .i64 x.to) := nr rfl
theorem rletAt_0 {x : RLet} {v : AV} : partIs Try.prog 60 (rletPs x) 0 v = fits Try.prog 3 v := by rw [partIs_of (o := 0) (T := 3) (by kernel_rfl)]; simp [rletPs, AV.sizes, AV.size]
theorem rletSet_0 {x : RLet} {y : Int} : (rletPs x).set 0 (.int .i64 y) = rletPs { x with to := y } := nr rfl
theorem rletPs_1 {x : RLet} : (rletPs x)[1]? = some (.str x.b) := nr rfl
theorem rletAt_1 {x : RLet} {v : AV} : partIs Try.prog 60 (rletPs x) 1 v = fits Try.prog 9 v := by rw [partIs_of (o := 1) (T := 9) (by kernel_rfl)]; simp [rletPs, AV.sizes, AV.size]
theorem rletSet_1 {x : RLet} {y : List UInt8} : (rletPs x).set 1 (.str y) = rletPs { x with b := y } := nr rfl
theorem sizes_rlet {x : RLet} : AV.sizes (rletPs x) = 2 := by simp [rletPs, AV.sizes, AV.size]
theorem shapes_rlet {x : RLet} : AV.shapes (rletPs x) = [.leaf, .leaf] := by simp [rletPs, AV.shapes, AV.shape]
theorem fits_rlet {v : AV} : fits Try.prog 60 v = (v.isAgg = true ∧ v.size = 2) := fits_agg (by kernel_rfl) (by kernel_rfl)
theorem zero_rlet : zeroA Try.prog 12 60 = .agg (rletPs rlet0) := by kernel_rfl
theorem zt_rlet : ZeroOf Try.prog 60 (.agg (rletPs rlet0)) = True := eq_true ⟨_, _, rfl, rfl, rfl, rfl, rfl⟩
theorem built_rlet : Built Try.prog 60 = True := eq_true (by unfold Built; rw [Try.underlying60]; decide +kernel)
theorem strip_rlet {x : RLet} : AV.strips (rletPs x) = rletPs x := by simp [rletPs, AV.strips, AV.strip]
theorem noRef_rlet {x : RLet} : AV.noRefs (rletPs x) = true := by simp [rletPs, AV.noRefs, AV.noRef]
structure RNet where
  clients : Int
  letters : List RLet
def rnet0 : RNet := ⟨0, []⟩
def rnetPs (t0 : Tk) (x : RNet) : List AV := [.int .i64 x.clients, .slice t0 (x.letters.map rletV)]
abbrev rnetV (t0 : Tk) (x : RNet) : AV := .agg (rnetPs t0 x)
theorem rnetPs_0 {t0 : Tk} {x : RNet} : (rnetPs t0 x)[0]? = some (.int .i64 x.clients) := nr rfl
theorem rnetAt_0 {t0 : Tk} {x : RNet} {v : AV} : partIs Try.prog 56 (rnetPs t0 x) 0 v = fits Try.prog 3 v := by rw [partIs_of (o := 0) (T := 3) (by kernel_rfl)]; simp [rnetPs, AV.sizes, AV.size]
theorem rnetSet_0 {t0 : Tk} {x : RNet} {y : Int} : (rnetPs t0 x).set 0 (.int .i64 y) = rnetPs t0 { x with clients := y } := nr rfl
theorem rnetPs_1 {t0 : Tk} {x : RNet} : (rnetPs t0 x)[1]? = some (.slice t0 (x.letters.map rletV)) := nr rfl
theorem rnetAt_1 {t0 : Tk} {x : RNet} {v : AV} : partIs Try.prog 56 (rnetPs t0 x) 1 v = fits Try.prog 54 v := by rw [partIs_of (o := 1) (T := 54) (by kernel_rfl)]; simp [rnetPs, AV.sizes, AV.size]
theorem rnetSet_1 {t0 : Tk} {u0 : Tk} {x : RNet} {y : List RLet} : (rnetPs t0 x).set 1 (.slice u0 (y.map rletV)) = rnetPs u0 { x with letters := y } := nr rfl
theorem sizes_rnet {t0 : Tk} {x : RNet} : AV.sizes (rnetPs t0 x) = 2 := by simp [rnetPs, AV.sizes, AV.size]
theorem shapes_rnet {t0 : Tk} {x : RNet} : AV.shapes (rnetPs t0 x) = [.leaf, .leaf] := by simp [rnetPs, AV.shapes, AV.shape]
theorem fits_rnet {v : AV} : fits Try.prog 56 v = (v.isAgg = true ∧ v.size = 2) := fits_agg (by kernel_rfl) (by kernel_rfl)
theorem zero_rnet : zeroA Try.prog 12 56 = .agg (rnetPs .full rnet0) := by kernel_rfl
theorem zt_rnet : ZeroOf Try.prog 56 (.agg (rnetPs .full rnet0)) = True := eq_true ⟨_, _, rfl, rfl, rfl, rfl, rfl⟩
theorem built_rnet : Built Try.prog 56 = True := eq_true (by unfold Built; rw [Try.underlying56]; decide +kernel)
end Go.Aff.L10

/- Drawn regions by trees of orders, where what was read need not stay for ever. -/
namespace Go.Aff
set_option linter.unusedVariables false
set_option linter.unusedSimpArgs false

variable {P : Program} {σ σ' : AST} {ops : Array Oper} {τ : Env} {KE : Env → AST → Prop}

/-- Orders with a word on each operation: 0: it reads, and that must stay; 1: it may leave something behind; 2: it reads, and stands ahead of all from the first on that leaves something behind; 3: it leaves nothing behind. -/
inductive Tu where
  | nil
  | op (i k : Nat) (r : Tu)
  | fork (e : Nat) (a b : Tu)
  | cut (r : Tu)
def Tu.tr : Tu → Tr
  | .nil => .nil
  | .op i _ r => .op i r.tr
  | .fork e a b => .fork e a.tr b.tr
  | .cut r => r.tr
def Tu.all : Tu → List Nat
  | .nil => []
  | .op i k r => if k = 1 ∨ k = 3 then i :: r.all else r.all
  | .fork _ a b => a.all ++ b.all
  | .cut r => r.all
/-- Those from the first on that may leave something behind. -/
def Tu.effs : Tu → List Nat
  | .nil => []
  | .op i k r => if k = 1 then i :: r.all else r.effs
  | .fork _ a b => a.effs ++ b.effs
  | .cut r => r.effs
theorem Tu.effs_all : ∀ {T : Tu} {x : Nat}, x ∈ T.effs → x ∈ T.all
  | .nil, x, h => h
  | .op i k r, x, h => by
    simp only [Tu.effs] at h
    simp only [Tu.all]
    split at h
    · rename_i hk; rw [if_pos (.inl hk)]; exact h
    · have := Tu.effs_all h
      split
      · exact List.mem_cons_of_mem _ this
      · exact this
  | .fork _ a b, x, h => by
    simp only [Tu.effs, Tu.all, List.mem_append] at h ⊢
    exact h.imp Tu.effs_all Tu.effs_all
  | .cut r, x, h => by
    simp only [Tu.effs] at h
    simp only [Tu.all]
    exact Tu.effs_all h

def seqU (P : Program) (ops : Array Oper) : Tu → List Nat → Env → AST → (Env → AST → Prop) → Prop
  | .nil, ks, τ, σ, K => K τ σ
  | .op i 1 r, ks, τ, σ, K => match gop ops i with
    | none => False
    | some o => stepW P ops o τ σ fun v σ' => keeps ks σ σ' ∧ seqU P ops r ks (τ.putO o.dst v) σ' K
  | .op i 0 r, ks, τ, σ, K => match gop ops i with
    | none => False
    | some o => stepW P ops o τ σ fun v σ' => σ' = σ ∧ seqU P ops r (reads (ev τ) o.op ++ ks) (τ.putO o.dst v) σ' K
  | .op i _ r, ks, τ, σ, K => match gop ops i with
    | none => False
    | some o => stepW P ops o τ σ fun v σ' => σ' = σ ∧ seqU P ops r ks (τ.putO o.dst v) σ' K
  | .fork _ a b, ks, τ, σ, K => seqU P ops a ks τ σ K ∧ seqU P ops b ks τ σ K
  | .cut r, ks, τ, σ, K => seqU P ops r [] τ σ K

def flagsU (P : Program) (ops : Array Oper) : Tu → List Nat → Bool
  | .nil, _ => true
  | .op i k r, zs => (match ops[i]? with
    | none => false
    | some o => effO P o == (k == 1 || k == 3)) && (k == 0 || k == 1 || k == 3 || r.effs.all fun y => ahead (anc ops) y i) && flagsU P ops r (if k = 0 then i :: zs else zs)
  | .fork _ a b, zs => flagsU P ops a zs && flagsU P ops b zs
  | .cut r, zs => (zs.all fun z => r.effs.all fun y => ahead (anc ops) y z) && flagsU P ops r []

def pastU (P : Program) (ops : Array Oper) (ks zs : List Nat) (past : List (Nat × Env × AV)) (T : Tu) (σ : AST) : Prop :=
  ∀ x ∈ past, (validT P ops x σ ∧ x.1 ∈ zs ∧ ∀ o, ops[x.1]? = some o → ∀ k ∈ reads (ev x.2.1) o.op, k ∈ ks) ∨ (validT P ops x σ ∧ ∀ y ∈ T.effs, ahead (anc ops) y x.1 = true) ∨ (∀ y ∈ T.all, ahead (anc ops) y x.1 = true)

theorem seqU_pure (i k : Nat) (r : Tu) (ks zs : List Nat) (past : List (Nat × Env × AV)) (τ : Env) (σ : AST) (k0 : k ≠ 0) (k1 : k ≠ 1) (k3 : k ≠ 3)
    (ih : ∀ (past' : List (Nat × Env × AV)) (τ' : Env), flagsU P ops r zs = true → pastU P ops ks zs past' r σ → (∀ t, lenOk (τ' t)) → seqU P ops r ks τ' σ KE → awpT P ops r.tr past' τ' σ KE)
    (hf : flagsU P ops (.op i k r) zs = true) (hp : pastU P ops ks zs past (.op i k r) σ) (hlen : ∀ t, lenOk (τ t))
    (h : match gop ops i with
      | none => False
      | some o => stepW P ops o τ σ fun v σ' => σ' = σ ∧ seqU P ops r ks (τ.putO o.dst v) σ' KE) : awpT P ops (Tu.op i k r).tr past τ σ KE := by
  split at h
  · exact h.elim
  · rename_i o hk
    have hk : ops[i]? = some o := hk
    simp only [flagsU, hk, Bool.and_eq_true, beq_iff_eq] at hf
    have b0 : (k == 0) = false := by simpa using k0
    have b1 : (k == 1) = false := by simpa using k1
    have b3 : (k == 3) = false := by simpa using k3
    rw [b0, b1, b3, if_neg k0] at hf
    have he : effO P o = false := by simpa using hf.1.1
    have hall : (r.effs.all fun y => ahead (anc ops) y i) = true := by simpa using hf.1.2
    rw [List.all_eq_true] at hall
    simp only [Tu.tr, awpT, hk, he, Bool.false_eq_true, if_false]
    obtain ⟨v, hv, hkk⟩ := stepW_det hlen he h
    refine hkk _ fun hlv => ih _ _ hf.2 ?_ hlv hv.2
    intro x hx
    rcases List.mem_cons.1 hx with rfl | hx
    · right; left
      refine ⟨fun o' ho' => ?_, hall⟩
      dsimp only at ho' ⊢
      rw [hk] at ho'; cases ho'
      exact ⟨hlen, he, hkk _ ⟨rfl, rfl⟩⟩
    · rcases hp x hx with ⟨h0, h1⟩ | ⟨h0, h1⟩ | h0
      · exact .inl ⟨h0, h1⟩
      · exact .inr (.inl ⟨h0, fun y hy => h1 y (by simpa [Tu.effs, k1] using hy)⟩)
      · exact .inr (.inr fun y hy => h0 y (by simpa [Tu.all, k1, k3] using hy))
theorem seqU_awpT : ∀ (T : Tu) (ks zs : List Nat) (past : List (Nat × Env × AV)) (τ : Env) (σ : AST), flagsU P ops T zs = true → pastU P ops ks zs past T σ → (∀ t, lenOk (τ t)) → seqU P ops T ks τ σ KE → awpT P ops T.tr past τ σ KE
  | .nil, ks, zs, past, τ, σ, hf, hp, hlen, h => h
  | .fork e a b, ks, zs, past, τ, σ, hf, hp, hlen, h => by
    simp only [flagsU, Bool.and_eq_true] at hf
    simp only [seqU] at h
    refine ⟨seqU_awpT a ks zs past τ σ hf.1 (fun x hx => ?_) hlen h.1, seqU_awpT b ks zs past τ σ hf.2 (fun x hx => ?_) hlen h.2⟩
    · rcases hp x hx with h | ⟨h1, h2⟩ | h
      · exact .inl h
      · exact .inr (.inl ⟨h1, fun y hy => h2 y (by simp [Tu.effs, hy])⟩)
      · exact .inr (.inr fun y hy => h y (by simp [Tu.all, hy]))
    · rcases hp x hx with h | ⟨h1, h2⟩ | h
      · exact .inl h
      · exact .inr (.inl ⟨h1, fun y hy => h2 y (by simp [Tu.effs, hy])⟩)
      · exact .inr (.inr fun y hy => h y (by simp [Tu.all, hy]))
  | .cut r, ks, zs, past, τ, σ, hf, hp, hlen, h => by
    simp only [flagsU, Bool.and_eq_true, List.all_eq_true] at hf
    simp only [seqU] at h
    refine seqU_awpT r [] [] past τ σ hf.2 (fun x hx => ?_) hlen h
    rcases hp x hx with ⟨h0, hz, _⟩ | ⟨h0, h1⟩ | h0
    · exact .inr (.inl ⟨h0, fun y hy => hf.1 x.1 hz y hy⟩)
    · exact .inr (.inl ⟨h0, fun y hy => h1 y (by simpa [Tu.effs] using hy)⟩)
    · exact .inr (.inr fun y hy => h0 y (by simpa [Tu.all] using hy))
  | .op i 1 r, ks, zs, past, τ, σ, hf, hp, hlen, h => by
    simp only [seqU] at h
    split at h
    · exact h.elim
    · rename_i o hk
      have hk : ops[i]? = some o := hk
      simp only [flagsU, hk, Bool.and_eq_true, beq_iff_eq] at hf
      have he : effO P o = true := by simpa using hf.1.1
      simp only [Tu.tr, awpT, hk, he, if_true]
      refine stepW_mono (fun v σ' hh => ?_) h
      refine ⟨fun x hx hah o ho => ?_, fun hlv => seqU_awpT r ks zs past _ _ (by simpa using hf.2) ?_ hlv hh.2⟩
      · rcases hp x hx with ⟨h0, hz, h3⟩ | ⟨_, h0⟩ | h0
        · obtain ⟨h1, h2, h4⟩ := h0 o ho
          exact step_same h1 h2 (fun k hk => hh.1 k (h3 o ho k hk)) h4
        · rw [h0 i (by simp [Tu.effs])] at hah; cases hah
        · rw [h0 i (by simp [Tu.all])] at hah; cases hah
      · intro x hx
        rcases hp x hx with ⟨h0, hz, h3⟩ | ⟨_, h0⟩ | h0
        · left
          refine ⟨fun o ho => ?_, hz, h3⟩
          obtain ⟨h1, h2, h4⟩ := h0 o ho
          exact ⟨h1, h2, step_same h1 h2 (fun k hk => hh.1 k (h3 o ho k hk)) h4⟩
        · right; right
          intro y hy; exact h0 y (by simp [Tu.effs, hy])
        · right; right
          intro y hy; exact h0 y (by simp [Tu.all, hy])
  | .op i 3 r, ks, zs, past, τ, σ, hf, hp, hlen, h => by
    simp only [seqU] at h
    split at h
    · exact h.elim
    · rename_i o hk
      have hk : ops[i]? = some o := hk
      simp only [flagsU, hk, Bool.and_eq_true, beq_iff_eq] at hf
      have he : effO P o = true := by simpa using hf.1.1
      simp only [Tu.tr, awpT, hk, he, if_true]
      refine stepW_mono (fun v σ' hh => ?_) h
      obtain ⟨rfl, hh⟩ := hh
      refine ⟨fun x hx hah o ho => ?_, fun hlv => seqU_awpT r ks zs past _ _ (by simpa using hf.2) ?_ hlv hh⟩
      · rcases hp x hx with ⟨h0, h3⟩ | ⟨h0, _⟩ | h0
        · exact (h0 o ho).2.2
        · exact (h0 o ho).2.2
        · rw [h0 i (by simp [Tu.all])] at hah; cases hah
      · intro x hx
        rcases hp x hx with h0 | ⟨h0, h1⟩ | h0
        · exact .inl h0
        · exact .inr (.inl ⟨h0, fun y hy => h1 y (by simpa [Tu.effs] using hy)⟩)
        · exact .inr (.inr fun y hy => h0 y (by simp [Tu.all, hy]))
  | .op i 0 r, ks, zs, past, τ, σ, hf, hp, hlen, h => by
    simp only [seqU] at h
    split at h
    · exact h.elim
    · rename_i o hk
      have hk : ops[i]? = some o := hk
      simp only [flagsU, hk, Bool.and_eq_true, beq_iff_eq] at hf
      have he : effO P o = false := by simpa using hf.1.1
      simp only [Tu.tr, awpT, hk, he, Bool.false_eq_true, if_false]
      obtain ⟨v, hv, hkk⟩ := stepW_det hlen he h
      refine hkk _ fun hlv => seqU_awpT r _ (i :: zs) _ _ _ (by simpa using hf.2) ?_ hlv hv.2
      intro x hx
      rcases List.mem_cons.1 hx with rfl | hx
      · left
        refine ⟨fun o' ho' => ?_, List.mem_cons_self .., fun o' ho' k hkr => ?_⟩
        · dsimp only at ho' ⊢
          rw [hk] at ho'; cases ho'
          exact ⟨hlen, he, hkk _ ⟨rfl, rfl⟩⟩
        · dsimp only at ho' hkr
          rw [hk] at ho'; cases ho'
          exact List.mem_append_left _ hkr
      · rcases hp x hx with ⟨h0, hz, h1⟩ | ⟨h0, h1⟩ | h0
        · exact .inl ⟨h0, List.mem_cons_of_mem _ hz, fun o' ho' k hkr => List.mem_append_right _ (h1 o' ho' k hkr)⟩
        · exact .inr (.inl ⟨h0, fun y hy => h1 y (by simpa [Tu.effs] using hy)⟩)
        · exact .inr (.inr fun y hy => h0 y (by simpa [Tu.all] using hy))
  | .op i 2 r, ks, zs, past, τ, σ, hf, hp, hlen, h => seqU_pure i 2 r ks zs past τ σ (by decide) (by decide) (by decide) (fun past' K' h1 h2 h3 h4 => seqU_awpT r ks zs past' _ σ h1 h2 h3 h4) hf hp hlen (by simpa only [seqU] using h)
  | .op i (n + 4) r, ks, zs, past, τ, σ, hf, hp, hlen, h => seqU_pure i (n + 4) r ks zs past τ σ (by omega) (by omega) (by omega) (fun past' K' h1 h2 h3 h4 => seqU_awpT r ks zs past' _ σ h1 h2 h3 h4) hf hp hlen (by simpa only [seqU] using h)

theorem awp_drawU {id : Nat} {ops : Array Oper} {Q : Exit → Env → AST → Prop} (T : Tu) (ho : (trOk P ops T.tr && flagsU P ops T []) = true) (h : seqU P ops T [] τ σ (Q .normal)) : awp P (.region id ops true) Q τ σ := by
  rw [Bool.and_eq_true] at ho
  exact awp_drawTree _ ho.1 fun hlen => seqU_awpT T [] [] [] τ σ ho.2 (fun x hx => by simp at hx) hlen h

def seqU0 (P : Program) (ops : Array Oper) (o : Option Oper) (r : Tu) (ks : List Nat) (τ : Env) (σ : AST) (K : Env → AST → Prop) : Prop := match o with
  | none => False
  | some o => stepW P ops o τ σ fun v σ' => σ' = σ ∧ seqU P ops r (reads (ev τ) o.op ++ ks) (τ.putO o.dst v) σ' K
def seqU1 (P : Program) (ops : Array Oper) (o : Option Oper) (r : Tu) (ks : List Nat) (τ : Env) (σ : AST) (K : Env → AST → Prop) : Prop := match o with
  | none => False
  | some o => stepW P ops o τ σ fun v σ' => keeps ks σ σ' ∧ seqU P ops r ks (τ.putO o.dst v) σ' K
def seqU2 (P : Program) (ops : Array Oper) (o : Option Oper) (r : Tu) (ks : List Nat) (τ : Env) (σ : AST) (K : Env → AST → Prop) : Prop := match o with
  | none => False
  | some o => stepW P ops o τ σ fun v σ' => σ' = σ ∧ seqU P ops r ks (τ.putO o.dst v) σ' K
variable {ks : List Nat}
theorem seqU_nil : seqU P ops .nil ks τ σ KE = KE τ σ := nr rfl
theorem seqU_1 {i : Nat} {r : Tu} : seqU P ops (.op i 1 r) ks τ σ KE = seqU1 P ops (gop ops i) r ks τ σ KE := by simp only [seqU, seqU1]
theorem seqU_0 {i : Nat} {r : Tu} : seqU P ops (.op i 0 r) ks τ σ KE = seqU0 P ops (gop ops i) r ks τ σ KE := by simp only [seqU, seqU0]
theorem seqU_3 {i : Nat} {r : Tu} : seqU P ops (.op i 3 r) ks τ σ KE = seqU2 P ops (gop ops i) r ks τ σ KE := by simp only [seqU, seqU2]
theorem seqU_2 {i : Nat} {r : Tu} : seqU P ops (.op i 2 r) ks τ σ KE = seqU2 P ops (gop ops i) r ks τ σ KE := by simp only [seqU, seqU2]
theorem seqU_cut {r : Tu} : seqU P ops (.cut r) ks τ σ KE = seqU P ops r [] τ σ KE := by simp only [seqU]
theorem seqU_fork {e : Nat} {a b : Tu} : seqU P ops (.fork e a b) ks τ σ KE = Both (@Later ⟨seqU P ops a ks τ σ KE⟩) (@Later ⟨seqU P ops b ks τ σ KE⟩) := by
  simp only [seqU, Later, eq_iff_iff]
  exact ⟨fun h => ⟨h.1, h.2⟩, fun h => ⟨h.l, h.r⟩⟩
theorem seqU1_some {o : Oper} {r : Tu} : seqU1 P ops (some o) r ks τ σ KE = stepW P ops o τ σ (@Lam ⟨fun v σ' => @Later ⟨keeps ks σ σ' ∧ seqU P ops r ks (τ.putO o.dst v) σ' KE⟩⟩) := nr rfl
theorem seqU0_some {o : Oper} {r : Tu} : seqU0 P ops (some o) r ks τ σ KE = stepW P ops o τ σ (@Lam ⟨fun v σ' => σ' = σ ∧ @Later ⟨seqU P ops r (reads (ev τ) o.op ++ ks) (τ.putO o.dst v) σ' KE⟩⟩) := nr rfl
theorem seqU2_some {o : Oper} {r : Tu} : seqU2 P ops (some o) r ks τ σ KE = stepW P ops o τ σ (@Lam ⟨fun v σ' => σ' = σ ∧ @Later ⟨seqU P ops r ks (τ.putO o.dst v) σ' KE⟩⟩) := nr rfl
attribute [go_sem ↓] seqU_nil seqU_0 seqU_1 seqU_2 seqU_3 seqU_fork seqU_cut seqU0_some seqU1_some seqU2_some
end Go.Aff

