/-
  Parts of the proofs: NumH, R1D, R1H, R6D, R6bD, R6H, R6V.
  No condition.
-/
import Derived.Test.YtjgegdipellpbaaMacD
import Derived.Test.YtjgegdipellpbaaFeA
import Derived.Test.YtjgegdipellpbaaFeE
/-
  Differences of digits, as numbers.
-/
namespace Go.Bx
noncomputable def lessSt (a b : List Nat) : Nat → Nat × List Nat
  | 0 => (0, [])
  | t + 1 => (bif Nat.blt (a.getD t 0) (b.getD t 0 + (lessSt a b t).1) then 1 else 0, (lessSt a b t).2 ++ [(65536 + a.getD t 0 - b.getD t 0 - (lessSt a b t).1) % 65536])
noncomputable def lessL (a b : List Nat) (n : Nat) : List Nat := (lessSt a b n).2

theorem lessSt_le (a b : List Nat) : ∀ t, (lessSt a b t).1 ≤ 1 ∧ (∀ x ∈ (lessSt a b t).2, x ≤ 65535) ∧ (lessSt a b t).2.length = t
  | 0 => ⟨by simp [lessSt], fun x hx => by simp [lessSt] at hx, rfl⟩
  | t + 1 => by
    obtain ⟨_, h2, h3⟩ := lessSt_le a b t
    rw [lessSt]
    refine ⟨?_, fun x hx => ?_, by simp [h3]⟩
    · cases Nat.blt (a.getD t 0) (b.getD t 0 + (lessSt a b t).1) <;> simp
    · rcases List.mem_append.1 hx with hx | hx
      · exact h2 x hx
      · simp only [List.mem_singleton] at hx
        omega

theorem lessL_le (a b : List Nat) (n : Nat) : ∀ x ∈ lessL a b n, x ≤ 65535 := (lessSt_le a b n).2.1
/-- The order's digits. -/
def qDig : List Nat := [54253, 23797, 25370, 22546, 40150, 41719, 63966, 5342, 0, 0, 0, 0, 0, 0, 0, 4096]
/-- The order. -/
def ordQ : Nat := 7237005577332262213973186563042994240857116359379907606001950938285454250989
noncomputable def r6Q_R : List Bd → Option Ret := fun bs => match bs with
  | [] => some (true, .slice 32 0 1 16 16 16 none, [(32, [.nats .i64 65535 16 qDig])])
  | _ => none
noncomputable def r6Q_S : Sum := SumG [] [32] r6Q_R
end Go.Bx

/-
  Printed by gen.py: what functions compute.
-/
namespace Go.Bx

/-! bastille/bastilleref01.Same -/
noncomputable def r1Same_cuts : List Nat := [0]
noncomputable def r1Same_0H (a : List Nat) (b : List Nat) (t0 : Nat) : St := ⟨[(0, .slice 0 0 1 (a.length) 0 1000 none), (1, .slice 1 0 1 (b.length) 0 1000 none), (5, .nat .i64 t0 0 1000)], [(0, ⟨true, [.nats .u8 255 (a.length) a]⟩), (1, ⟨true, [.nats .u8 255 (b.length) b]⟩)], 2, [], []⟩
noncomputable def r1Same_0R (a : List Nat) (b : List Nat) (t0 : Nat) : St := ⟨[(0, .slice 0 0 1 (a.length) 0 1000 none), (1, .slice 1 0 1 (b.length) 0 1000 none), (5, .nat .i64 t0 0 999)], [(0, ⟨true, [.nats .u8 255 (a.length) a]⟩), (1, ⟨true, [.nats .u8 255 (b.length) b]⟩)], 2, [], []⟩
noncomputable def r1Same_0_b (a : List Nat) (b : List Nat) (t0 : Nat) : Bool := (!(Nat.beq (a.getD t0 0) (b.getD t0 0)))
noncomputable def r1Same_0Y : St := ⟨[(4, .bool false)], [], 2, [], []⟩
noncomputable def r1Same_0E (a : List Nat) (b : List Nat) : St := ⟨[(0, .slice 0 0 1 (a.length) 0 1000 none), (1, .slice 1 0 1 (b.length) 0 1000 none), (5, .nat .i64 (a.length) 0 1000)], [(0, ⟨true, [.nats .u8 255 (a.length) a]⟩), (1, ⟨true, [.nats .u8 255 (b.length) b]⟩)], 2, [], []⟩
noncomputable def r1Same_0X : St := ⟨[], [], 2, [], []⟩
noncomputable def r1Same_z1 (a : List Nat) (b : List Nat) : Bool := (firstHit (r1Same_0_b a b) (fun _ => false) true 0 (a.length))
noncomputable def r1Same_z2 (a : List Nat) (b : List Nat) : Bool := (bif (!(Nat.beq (a.length) (b.length))) then false else (r1Same_z1 a b))
noncomputable def r1Same_P : List Pat := [.sl .u8 255 0 1000, .sl .u8 255 0 1000]
noncomputable def r1Same_R : List Bd → Option Ret := fun bs => match bs with
  | [.l a, .l b] => some (true, .ob (r1Same_z2 a b), [])
  | _ => none
noncomputable def r1Same_S : Sum := SumG r1Same_P [] r1Same_R

/-! bastille/bastilleref04.AtLeast -/
noncomputable def r4AtLeast_cuts : List Nat := [0]
noncomputable def r4AtLeast_0H (a : List Nat) (b : List Nat) (t0 : Nat) : St := ⟨[(0, .slice 0 0 1 17 17 17 none), (1, .slice 1 0 1 17 17 17 none), (5, .int .i64 (((16 : Nat) : Int) - ((t0 : Nat) : Int)))], [(0, ⟨true, [.nats .i64 65535 17 a]⟩), (1, ⟨true, [.nats .i64 65535 17 b]⟩)], 2, [], []⟩
noncomputable def r4AtLeast_0R (a : List Nat) (b : List Nat) (t0 : Nat) : St := ⟨[(0, .slice 0 0 1 17 17 17 none), (1, .slice 1 0 1 17 17 17 none), (5, .nat .i64 (16 - t0) 0 16)], [(0, ⟨true, [.nats .i64 65535 17 a]⟩), (1, ⟨true, [.nats .i64 65535 17 b]⟩)], 2, [], []⟩
noncomputable def r4AtLeast_0_b (a : List Nat) (b : List Nat) (t0 : Nat) : Bool := (!(Nat.beq (a.getD (16 - t0) 0) (b.getD (16 - t0) 0)))
noncomputable def r4AtLeast_0Y (a : List Nat) (b : List Nat) (t0 : Nat) : St := ⟨[(4, .ob (Nat.blt (b.getD (16 - t0) 0) (a.getD (16 - t0) 0)))], [], 2, [], []⟩
noncomputable def r4AtLeast_0E (a : List Nat) (b : List Nat) : St := ⟨[(0, .slice 0 0 1 17 17 17 none), (1, .slice 1 0 1 17 17 17 none), (5, .neg .i64 0)], [(0, ⟨true, [.nats .i64 65535 17 a]⟩), (1, ⟨true, [.nats .i64 65535 17 b]⟩)], 2, [], []⟩
noncomputable def r4AtLeast_0X : St := ⟨[], [], 2, [], []⟩
noncomputable def r4AtLeast_z1 (a : List Nat) (b : List Nat) : Bool := (firstHit (r4AtLeast_0_b a b) (fun tq0 => (Nat.blt (b.getD (16 - tq0) 0) (a.getD (16 - tq0) 0))) true 0 17)
noncomputable def r4AtLeast_P : List Pat := [.sl .i64 65535 17 17, .sl .i64 65535 17 17]
noncomputable def r4AtLeast_R : List Bd → Option Ret := fun bs => match bs with
  | [.l a, .l b] => some (true, .ob (r4AtLeast_z1 a b), [])
  | _ => none
noncomputable def r4AtLeast_S : Sum := SumG r4AtLeast_P [] r4AtLeast_R

/-! bastille/bastilleref04.Less -/
noncomputable def r4Less_cuts : List Nat := [0]
noncomputable def r4Less_0H (a : List Nat) (b : List Nat) (t0 : Nat) (v0 : Nat × List Int) : St := ⟨[(0, .slice 0 0 1 17 17 17 none), (1, .slice 1 0 1 17 17 17 none), (5, .slice 2 0 1 t0 0 17 none), (6, .nat .i64 v0.1 0 1), (7, .nat .i64 t0 0 17)], [(0, ⟨true, [.nats .i64 65535 17 a]⟩), (1, ⟨true, [.nats .i64 65535 17 b]⟩), (2, ⟨false, [.ints .i64 t0 v0.2]⟩)], 3, [], []⟩
noncomputable def r4Less_0R (a : List Nat) (b : List Nat) (t0 : Nat) (v0 : Nat × List Int) : St := ⟨[(0, .slice 0 0 1 17 17 17 none), (1, .slice 1 0 1 17 17 17 none), (5, .slice 2 0 1 t0 0 16 none), (6, .nat .i64 v0.1 0 1), (7, .nat .i64 t0 0 16)], [(0, ⟨true, [.nats .i64 65535 17 a]⟩), (1, ⟨true, [.nats .i64 65535 17 b]⟩), (2, ⟨false, [.ints .i64 t0 v0.2]⟩)], 3, [], []⟩
noncomputable def r4Less_e1 (a : List Nat) (b : List Nat) (t0 : Nat) (v0 : Nat × List Int) : Nat := (bif (decide ((IntKind.i64.wrap ((IntKind.i64.wrap ((((a.getD t0 0) : Nat) : Int) - (((b.getD t0 0) : Nat) : Int))) - ((v0.1 : Nat) : Int))) < (0 : Int))) then 1 else 0)
noncomputable def r4Less_e2 (a : List Nat) (b : List Nat) (t0 : Nat) (v0 : Nat × List Int) : List Int := (v0.2 ++ ((((List.replicate 1 0).map Int.ofNat).set 0 (bif (decide ((IntKind.i64.wrap ((IntKind.i64.wrap ((((a.getD t0 0) : Nat) : Int) - (((b.getD t0 0) : Nat) : Int))) - ((v0.1 : Nat) : Int))) < (0 : Int))) then (IntKind.i64.wrap ((IntKind.i64.wrap ((IntKind.i64.wrap ((((a.getD t0 0) : Nat) : Int) - (((b.getD t0 0) : Nat) : Int))) - ((v0.1 : Nat) : Int))) + (65536 : Int))) else (IntKind.i64.wrap ((IntKind.i64.wrap ((((a.getD t0 0) : Nat) : Int) - (((b.getD t0 0) : Nat) : Int))) - ((v0.1 : Nat) : Int))))).take 1))
noncomputable def r4Less_0s (a : List Nat) (b : List Nat) (t0 : Nat) (v0 : Nat × List Int) : Nat × List Int := ((r4Less_e1 a b t0 v0), (r4Less_e2 a b t0 v0))
noncomputable def r4Less_0l (a : List Nat) (b : List Nat) (v : Nat × List Int) : Nat → Nat × List Int
  | 0 => v
  | t + 1 => r4Less_0s a b t (r4Less_0l a b v t)
noncomputable def r4Less_0E (a : List Nat) (b : List Nat) (v0 : Nat × List Int) : St := ⟨[(0, .slice 0 0 1 17 17 17 none), (1, .slice 1 0 1 17 17 17 none), (5, .slice 2 0 1 17 17 17 none), (6, .nat .i64 v0.1 0 1), (7, .nat .i64 17 17 17)], [(0, ⟨true, [.nats .i64 65535 17 a]⟩), (1, ⟨true, [.nats .i64 65535 17 b]⟩), (2, ⟨false, [.ints .i64 17 v0.2]⟩)], 3, [], []⟩
noncomputable def r4Less_0X (v0 : Nat × List Int) : St := ⟨[(5, .slice 2 0 1 17 17 17 none)], [(2, ⟨false, [.ints .i64 17 v0.2]⟩)], 3, [], []⟩
noncomputable def r4Less_v3 (a : List Nat) (b : List Nat) : List Int := (r4Less_0l a b (0, []) 17).2
noncomputable def r4Less_P : List Pat := [.sl .i64 65535 17 17, .sl .i64 65535 17 17]
noncomputable def r4Less_R : List Bd → Option Ret := fun bs => match bs with
  | [.l a, .l b] => some (true, .slice 2 0 1 17 17 17 none, [(2, [.nats .i64 65535 17 (lessL a b 17)])])
  | _ => none
noncomputable def r4Less_S : Sum := SumG r4Less_P [2] r4Less_R
end Go.Bx

/-
  The reference's differences of digits, as numbers.
-/
namespace Go.Bx

theorem less_go {a b : List Nat} (ha : ∀ x ∈ a, x ≤ 65535) (hb : ∀ x ∈ b, x ≤ 65535) : ∀ t, r4Less_0l a b (0, []) t = ((lessSt a b t).1, (lessSt a b t).2.map Int.ofNat)
  | 0 => rfl
  | t + 1 => by
    have ih := less_go ha hb t
    obtain ⟨h1, _, _⟩ := lessSt_le a b t
    have x1 := getD_le ha t
    have x2 := getD_le hb t
    rw [r4Less_0l, ih, lessSt]
    unfold r4Less_0s r4Less_e1 r4Less_e2
    simp only
    generalize (lessSt a b t).1 = br at *
    generalize (lessSt a b t).2 = xs at *
    generalize a.getD t 0 = x at *
    generalize b.getD t 0 = y at *
    rw [wrap_small (z := (x : Int) - (y : Int)) (by omega) (by omega), wrap_small (z := (x : Int) - (y : Int) - (br : Int)) (by omega) (by omega), wrap_small (z := (x : Int) - (y : Int) - (br : Int) + 65536) (by omega) (by omega)]
    have e : decide ((x : Int) - (y : Int) - (br : Int) < 0) = Nat.blt x (y + br) := by
      rcases bool_cases (Nat.blt x (y + br)) with h | h
      · have := blt_lt h; rw [h]; exact decide_eq_true (by omega)
      · have := blt_no h; rw [h]; exact decide_eq_false (by omega)
    rw [e]
    have hs : ∀ z : Int, (((List.replicate 1 0).map Int.ofNat).set 0 z).take 1 = [z] := fun z => rfl
    rw [hs, List.map_append]
    rcases bool_cases (Nat.blt x (y + br)) with h | h
    · have := blt_lt h
      rw [h]
      simp only [cond_true, List.map_cons, List.map_nil]
      have : (x : Int) - (y : Int) - (br : Int) + 65536 = Int.ofNat ((65536 + x - y - br) % 65536) := by
        show _ = (((65536 + x - y - br) % 65536 : Nat) : Int)
        omega
      rw [this]
    · have := blt_no h
      rw [h]
      simp only [cond_false, List.map_cons, List.map_nil]
      have : (x : Int) - (y : Int) - (br : Int) = Int.ofNat ((65536 + x - y - br) % 65536) := by
        show _ = (((65536 + x - y - br) % 65536 : Nat) : Int)
        omega
      rw [this]

end Go.Bx
namespace Go.Bx
theorem r4Less_lessL {a b : List Nat} (ha : ∀ x ∈ a, x ≤ 65535) (hb : ∀ x ∈ b, x ≤ 65535) : r4Less_v3 a b = (lessL a b 17).map Int.ofNat := by
  unfold r4Less_v3
  rw [less_go ha hb 17]
  unfold lessL
  generalize lessSt a b 17 = p
  rfl
end Go.Bx

/-
  Printed by gen.py: what functions compute.
-/
namespace Go.Bx

/-! bastille/bastilleref06.Mod -/
noncomputable def r6Mod_cuts : List Nat := [0, 2, 4]
noncomputable def r6Mod_0H (a : List Nat) (a0 : List Nat) (t0 : Nat) (v0 : List Nat) : St := ⟨[(0, .slice 0 0 1 (a.length) 1 100 none), (3, .slice 1 0 1 17 17 17 none), (4, .slice 2 0 1 17 17 17 none), (5, .int .i64 (((((a.length) - 1) : Nat) : Int) - ((t0 : Nat) : Int)))], [(0, ⟨true, [.nats .i64 65535 (a.length) a]⟩), (1, ⟨false, [.nats .i64 65535 17 a0]⟩), (2, ⟨false, [.nats .i64 65535 17 v0]⟩)], 3, [], []⟩
noncomputable def r6Mod_0R (a : List Nat) (a0 : List Nat) (t0 : Nat) (v0 : List Nat) : St := ⟨[(0, .slice 0 0 1 (a.length) 1 100 none), (3, .slice 1 0 1 17 17 17 none), (4, .slice 2 0 1 17 17 17 none), (5, .nat .i64 (((a.length) - 1) - t0) 0 99)], [(0, ⟨true, [.nats .i64 65535 (a.length) a]⟩), (1, ⟨false, [.nats .i64 65535 17 a0]⟩), (2, ⟨false, [.nats .i64 65535 17 v0]⟩)], 3, [], []⟩
noncomputable def r6Mod_2H (a : List Nat) (t0 : Nat) (a0 : List Nat) (t1 : Nat) (v1 : List Nat) : St := ⟨[(0, .slice 0 0 1 (a.length) 1 100 none), (3, .slice 1 0 1 17 17 17 none), (4, .slice 2 0 1 17 17 17 none), (5, .nat .i64 (((a.length) - 1) - t0) 0 99), (6, .nat .i64 (2 ^ 15 / 2 ^ t1) 0 32768)], [(0, ⟨true, [.nats .i64 65535 (a.length) a]⟩), (1, ⟨false, [.nats .i64 65535 17 a0]⟩), (2, ⟨false, [.nats .i64 65535 17 v1]⟩)], 3, [], []⟩
noncomputable def r6Mod_2R (a : List Nat) (t0 : Nat) (a0 : List Nat) (t1 : Nat) (v1 : List Nat) : St := ⟨[(0, .slice 0 0 1 (a.length) 1 100 none), (3, .slice 1 0 1 17 17 17 none), (4, .slice 2 0 1 17 17 17 none), (5, .nat .i64 (((a.length) - 1) - t0) 0 99), (6, .nat .i64 (2 ^ 15 / 2 ^ t1) 1 32768)], [(0, ⟨true, [.nats .i64 65535 (a.length) a]⟩), (1, ⟨false, [.nats .i64 65535 17 a0]⟩), (2, ⟨false, [.nats .i64 65535 17 v1]⟩)], 3, [], []⟩
noncomputable def r6Mod_4H (a : List Nat) (t0 : Nat) (t1 : Nat) (a0 : List Nat) (t2 : Nat) (v2 : Nat × List Nat) : St := ⟨[(0, .slice 0 0 1 (a.length) 1 100 none), (3, .slice 1 0 1 17 17 17 none), (4, .slice 2 0 1 17 17 17 none), (5, .nat .i64 (((a.length) - 1) - t0) 0 99), (6, .nat .i64 (2 ^ 15 / 2 ^ t1) 1 32768), (7, .nat .i64 v2.1 0 1), (8, .nat .i64 t2 0 17)], [(0, ⟨true, [.nats .i64 65535 (a.length) a]⟩), (1, ⟨false, [.nats .i64 65535 17 a0]⟩), (2, ⟨false, [.nats .i64 65535 17 v2.2]⟩)], 3, [], []⟩
noncomputable def r6Mod_4R (a : List Nat) (t0 : Nat) (t1 : Nat) (a0 : List Nat) (t2 : Nat) (v2 : Nat × List Nat) : St := ⟨[(0, .slice 0 0 1 (a.length) 1 100 none), (3, .slice 1 0 1 17 17 17 none), (4, .slice 2 0 1 17 17 17 none), (5, .nat .i64 (((a.length) - 1) - t0) 0 99), (6, .nat .i64 (2 ^ 15 / 2 ^ t1) 1 32768), (7, .nat .i64 v2.1 0 1), (8, .nat .i64 t2 0 16)], [(0, ⟨true, [.nats .i64 65535 (a.length) a]⟩), (1, ⟨false, [.nats .i64 65535 17 a0]⟩), (2, ⟨false, [.nats .i64 65535 17 v2.2]⟩)], 3, [], []⟩
noncomputable def r6Mod_4s (t2 : Nat) (v2 : Nat × List Nat) : Nat × List Nat := ((((2 * (v2.2.getD t2 0)) + v2.1) / 65536), (v2.2.set t2 (((2 * (v2.2.getD t2 0)) + v2.1) % 65536)))
noncomputable def r6Mod_4l (v : Nat × List Nat) : Nat → Nat × List Nat
  | 0 => v
  | t + 1 => r6Mod_4s t (r6Mod_4l v t)
noncomputable def r6Mod_4E (a : List Nat) (t0 : Nat) (t1 : Nat) (a0 : List Nat) (v2 : Nat × List Nat) : St := ⟨[(0, .slice 0 0 1 (a.length) 1 100 none), (3, .slice 1 0 1 17 17 17 none), (4, .slice 2 0 1 17 17 17 none), (5, .nat .i64 (((a.length) - 1) - t0) 0 99), (6, .nat .i64 (2 ^ 15 / 2 ^ t1) 1 32768), (7, .nat .i64 v2.1 0 1), (8, .nat .i64 17 17 17)], [(0, ⟨true, [.nats .i64 65535 (a.length) a]⟩), (1, ⟨false, [.nats .i64 65535 17 a0]⟩), (2, ⟨false, [.nats .i64 65535 17 v2.2]⟩)], 3, [], []⟩
noncomputable def r6Mod_4X (a : List Nat) (t0 : Nat) (t1 : Nat) (a0 : List Nat) (v2 : Nat × List Nat) : St := ⟨[(0, .slice 0 0 1 (a.length) 1 100 none), (3, .slice 1 0 1 17 17 17 none), (4, .slice 2 0 1 17 17 17 none), (5, .nat .i64 (((a.length) - 1) - t0) 0 99), (6, .nat .i64 (2 ^ 15 / 2 ^ t1) 1 32768)], [(0, ⟨true, [.nats .i64 65535 (a.length) a]⟩), (1, ⟨false, [.nats .i64 65535 17 a0]⟩), (2, ⟨false, [.nats .i64 65535 17 v2.2]⟩)], 3, [], []⟩
noncomputable def r6Mod_y1 (a : List Nat) (t0 : Nat) (t1 : Nat) (v1 : List Nat) : Nat × List Nat := (r6Mod_4l ((((a.getD (((a.length) - 1) - t0) 0) / (2 ^ 15 / 2 ^ t1)) % 2), v1) 17)
noncomputable def r6Mod_2s (a : List Nat) (t0 : Nat) (a0 : List Nat) (t1 : Nat) (v1 : List Nat) : List Nat := (bif (r4AtLeast_z1 (subL 0 17 (r6Mod_y1 a t0 t1 v1).2) (subL 0 17 a0)) then (lessL (subL 0 17 (r6Mod_y1 a t0 t1 v1).2) (subL 0 17 a0) 17) else (r6Mod_y1 a t0 t1 v1).2)
noncomputable def r6Mod_2l (a : List Nat) (t0 : Nat) (a0 : List Nat) (v : List Nat) : Nat → List Nat
  | 0 => v
  | t + 1 => r6Mod_2s a t0 a0 t (r6Mod_2l a t0 a0 v t)
noncomputable def r6Mod_2E (a : List Nat) (t0 : Nat) (a0 : List Nat) (v1 : List Nat) : St := ⟨[(0, .slice 0 0 1 (a.length) 1 100 none), (3, .slice 1 0 1 17 17 17 none), (4, .slice 2 0 1 17 17 17 none), (5, .nat .i64 (((a.length) - 1) - t0) 0 99), (6, .nat .i64 0 0 0)], [(0, ⟨true, [.nats .i64 65535 (a.length) a]⟩), (1, ⟨false, [.nats .i64 65535 17 a0]⟩), (2, ⟨false, [.nats .i64 65535 17 v1]⟩)], 3, [], []⟩
noncomputable def r6Mod_2X (a : List Nat) (t0 : Nat) (a0 : List Nat) (v1 : List Nat) : St := ⟨[(0, .slice 0 0 1 (a.length) 1 100 none), (3, .slice 1 0 1 17 17 17 none), (4, .slice 2 0 1 17 17 17 none), (5, .nat .i64 (((a.length) - 1) - t0) 0 99)], [(0, ⟨true, [.nats .i64 65535 (a.length) a]⟩), (1, ⟨false, [.nats .i64 65535 17 a0]⟩), (2, ⟨false, [.nats .i64 65535 17 v1]⟩)], 3, [], []⟩
noncomputable def r6Mod_0s (a : List Nat) (a0 : List Nat) (t0 : Nat) (v0 : List Nat) : List Nat := (r6Mod_2l a t0 a0 v0 16)
noncomputable def r6Mod_0l (a : List Nat) (a0 : List Nat) (v : List Nat) : Nat → List Nat
  | 0 => v
  | t + 1 => r6Mod_0s a a0 t (r6Mod_0l a a0 v t)
noncomputable def r6Mod_0E (a : List Nat) (a0 : List Nat) (v0 : List Nat) : St := ⟨[(0, .slice 0 0 1 (a.length) 1 100 none), (3, .slice 1 0 1 17 17 17 none), (4, .slice 2 0 1 17 17 17 none), (5, .neg .i64 0)], [(0, ⟨true, [.nats .i64 65535 (a.length) a]⟩), (1, ⟨false, [.nats .i64 65535 17 a0]⟩), (2, ⟨false, [.nats .i64 65535 17 v0]⟩)], 3, [], []⟩
noncomputable def r6Mod_0X (v0 : List Nat) : St := ⟨[(4, .slice 1 0 1 17 17 17 none)], [(1, ⟨false, [.nats .i64 65535 17 v0]⟩)], 2, [], []⟩
noncomputable def r6Mod_y2 (a : List Nat) : List Nat := (r6Mod_0l a (qDig ++ (((List.replicate 1 0).set 0 0).take 1)) (List.replicate 17 0) (((a.length) - 1) + 1))
noncomputable def r6Mod_v3 (a : List Nat) : List Nat := (r6Mod_y2 a)
noncomputable def r6Mod_P : List Pat := [.sl .i64 65535 1 100]
noncomputable def r6Mod_R : List Bd → Option Ret := fun bs => match bs with
  | [.l a] => some (true, .slice 1 0 1 16 16 16 none, [(1, [.nats .i64 65535 17 (r6Mod_v3 a)])])
  | _ => none
noncomputable def r6Mod_S : Sum := SumG r6Mod_P [1] r6Mod_R
end Go.Bx

/-
  Printed by gen.py: what functions compute.
-/
namespace Go.Bx

/-! bastille/bastilleref04.Digits -/
noncomputable def r4Digits_cuts : List Nat := [0]
noncomputable def r4Digits_0H (b : List Nat) (t0 : Nat) (v0 : List Nat) : St := ⟨[(1, .ptr 0 0), (3, .slice 1 0 1 t0 0 16 none), (4, .nat .i64 (2 * t0) 0 32)], [(0, ⟨false, [.nats .u8 255 32 b]⟩), (1, ⟨false, [.nats .i64 65535 t0 v0]⟩)], 2, [], []⟩
noncomputable def r4Digits_0R (b : List Nat) (t0 : Nat) (v0 : List Nat) : St := ⟨[(1, .ptr 0 0), (3, .slice 1 0 1 t0 0 15 none), (4, .nat .i64 (2 * t0) 0 30)], [(0, ⟨false, [.nats .u8 255 32 b]⟩), (1, ⟨false, [.nats .i64 65535 t0 v0]⟩)], 2, [], []⟩
noncomputable def r4Digits_0s (b : List Nat) (t0 : Nat) (v0 : List Nat) : List Nat := (v0 ++ (((List.replicate 1 0).set 0 ((b.getD (2 * t0) 0) + (256 * (b.getD ((2 * t0) + 1) 0)))).take 1))
noncomputable def r4Digits_0l (b : List Nat) (v : List Nat) : Nat → List Nat
  | 0 => v
  | t + 1 => r4Digits_0s b t (r4Digits_0l b v t)
noncomputable def r4Digits_0E (b : List Nat) (v0 : List Nat) : St := ⟨[(1, .ptr 0 0), (3, .slice 1 0 1 16 16 16 none), (4, .nat .i64 32 32 32)], [(0, ⟨false, [.nats .u8 255 32 b]⟩), (1, ⟨false, [.nats .i64 65535 16 v0]⟩)], 2, [], []⟩
noncomputable def r4Digits_0X (v0 : List Nat) : St := ⟨[(3, .slice 0 0 1 16 16 16 none)], [(0, ⟨false, [.nats .i64 65535 16 v0]⟩)], 1, [], []⟩
noncomputable def r4Digits_v1 (b : List Nat) : List Nat := (r4Digits_0l b [] 16)
noncomputable def r4Digits_P : List Pat := [.arr .u8 255 32]
noncomputable def r4Digits_R : List Bd → Option Ret := fun bs => match bs with
  | [.l b] => some (true, .slice 0 0 1 16 16 16 none, [(0, [.nats .i64 65535 16 (r4Digits_v1 b)])])
  | _ => none
noncomputable def r4Digits_S : Sum := SumG r4Digits_P [0] r4Digits_R

/-! bastille/bastilleref04.Bytes -/
noncomputable def r4Bytes_cuts : List Nat := [0]
noncomputable def r4Bytes_0H (a : List Nat) (a0 : List Nat) (t0 : Nat) (v0 : List Nat) : St := ⟨[(0, .slice 0 0 1 16 16 16 none), (2, .ptr 1 0), (3, .ptr 2 0), (4, .nat .i64 t0 0 16)], [(0, ⟨true, [.nats .i64 65535 16 a]⟩), (1, ⟨false, [.nats .u8 0 32 a0]⟩), (2, ⟨false, [.nats .u8 255 32 v0]⟩)], 3, [], []⟩
noncomputable def r4Bytes_0R (a : List Nat) (a0 : List Nat) (t0 : Nat) (v0 : List Nat) : St := ⟨[(0, .slice 0 0 1 16 16 16 none), (2, .ptr 1 0), (3, .ptr 2 0), (4, .nat .i64 t0 0 15)], [(0, ⟨true, [.nats .i64 65535 16 a]⟩), (1, ⟨false, [.nats .u8 0 32 a0]⟩), (2, ⟨false, [.nats .u8 255 32 v0]⟩)], 3, [], []⟩
noncomputable def r4Bytes_0s (a : List Nat) (t0 : Nat) (v0 : List Nat) : List Nat := ((v0.set (2 * t0) ((a.getD t0 0) % 256)).set ((2 * t0) + 1) ((a.getD t0 0) / 256))
noncomputable def r4Bytes_0l (a : List Nat) (v : List Nat) : Nat → List Nat
  | 0 => v
  | t + 1 => r4Bytes_0s a t (r4Bytes_0l a v t)
noncomputable def r4Bytes_0E (a : List Nat) (a0 : List Nat) (v0 : List Nat) : St := ⟨[(0, .slice 0 0 1 16 16 16 none), (2, .ptr 1 0), (3, .ptr 2 0), (4, .nat .i64 16 16 16)], [(0, ⟨true, [.nats .i64 65535 16 a]⟩), (1, ⟨false, [.nats .u8 0 32 a0]⟩), (2, ⟨false, [.nats .u8 255 32 v0]⟩)], 3, [], []⟩
noncomputable def r4Bytes_0X (a0 : List Nat) (v0 : List Nat) : St := ⟨[(2, .ptr 1 0), (3, .ptr 2 0)], [(1, ⟨false, [.nats .u8 0 32 a0]⟩), (2, ⟨false, [.nats .u8 255 32 v0]⟩)], 3, [], []⟩
noncomputable def r4Bytes_v1 (a : List Nat) : List Nat := (r4Bytes_0l a (List.replicate 32 0) 16)
noncomputable def r4Bytes_P : List Pat := [.sl .i64 65535 16 16]
noncomputable def r4Bytes_R : List Bd → Option Ret := fun bs => match bs with
  | [.l a] => some (true, .nats .u8 255 32 (r4Bytes_v1 a), [])
  | _ => none
noncomputable def r4Bytes_S : Sum := SumG r4Bytes_P [] r4Bytes_R

/-! bastille/bastilleref06.Of -/
noncomputable def r6Of_cuts : List Nat := [0]
noncomputable def r6Of_0H (b : List Nat) (a0 : List Nat) (t0 : Nat) (v0 : List Nat) : St := ⟨[(0, .slice 0 0 1 (b.length) 2 64 none), (2, .ptr 1 0), (3, .slice 2 0 1 t0 0 32 none), (4, .nat .i64 (2 * t0) 0 64)], [(0, ⟨true, [.nats .u8 255 (b.length) b]⟩), (1, ⟨false, [.nats .u8 0 32 a0]⟩), (2, ⟨false, [.nats .i64 65535 t0 v0]⟩)], 3, [], []⟩
noncomputable def r6Of_0R (b : List Nat) (a0 : List Nat) (t0 : Nat) (v0 : List Nat) : St := ⟨[(0, .slice 0 0 1 (b.length) 2 64 none), (2, .ptr 1 0), (3, .slice 2 0 1 t0 0 31 none), (4, .nat .i64 (2 * t0) 0 62)], [(0, ⟨true, [.nats .u8 255 (b.length) b]⟩), (1, ⟨false, [.nats .u8 0 32 a0]⟩), (2, ⟨false, [.nats .i64 65535 t0 v0]⟩)], 3, [], []⟩
noncomputable def r6Of_e1 (b : List Nat) (t0 : Nat) (v0 : List Nat) : List Nat := (v0 ++ (((List.replicate 1 0).set 0 (bif (Nat.blt ((2 * t0) + 1) (b.length)) then ((b.getD (2 * t0) 0) + (256 * (b.getD ((2 * t0) + 1) 0))) else (b.getD (2 * t0) 0))).take 1))
noncomputable def r6Of_0s (b : List Nat) (t0 : Nat) (v0 : List Nat) : List Nat := (r6Of_e1 b t0 v0)
noncomputable def r6Of_0l (b : List Nat) (v : List Nat) : Nat → List Nat
  | 0 => v
  | t + 1 => r6Of_0s b t (r6Of_0l b v t)
noncomputable def r6Of_0E (b : List Nat) (a0 : List Nat) (v0 : List Nat) : St := ⟨[(0, .slice 0 0 1 (b.length) 2 64 none), (2, .ptr 1 0), (3, .slice 2 0 1 (((b.length) + 1) / 2) 1 32 none), (4, .nat .i64 (2 * (((b.length) + 1) / 2)) 0 64)], [(0, ⟨true, [.nats .u8 255 (b.length) b]⟩), (1, ⟨false, [.nats .u8 0 32 a0]⟩), (2, ⟨false, [.nats .i64 65535 (((b.length) + 1) / 2) v0]⟩)], 3, [], []⟩
noncomputable def r6Of_0X (b : List Nat) (a0 : List Nat) (v0 : List Nat) : St := ⟨[(2, .ptr 1 0), (3, .slice 2 0 1 (((b.length) + 1) / 2) 1 32 none)], [(1, ⟨false, [.nats .u8 0 32 a0]⟩), (2, ⟨false, [.nats .i64 65535 (((b.length) + 1) / 2) v0]⟩)], 3, [], []⟩
noncomputable def r6Of_v2 (b : List Nat) : List Nat := (r4Bytes_v1 (subL 0 16 (r6Mod_v3 (subL 0 (((b.length) + 1) / 2) (r6Of_0l b [] (((b.length) + 1) / 2))))))
noncomputable def r6Of_P : List Pat := [.sl .u8 255 2 64]
noncomputable def r6Of_R : List Bd → Option Ret := fun bs => match bs with
  | [.l b] => some (true, .nats .u8 255 32 (r6Of_v2 b), [])
  | _ => none
noncomputable def r6Of_S : Sum := SumG r6Of_P [] r6Of_R

/-! bastille/bastilleref06.Add -/
noncomputable def r6Add_cuts : List Nat := [0]
noncomputable def r6Add_0H (a0 : List Nat) (a1 : List Nat) (a2 : List Nat) (t0 : Nat) (v0 : Nat × List Nat) : St := ⟨[(4, .ptr 0 0), (5, .slice 1 0 1 16 16 16 none), (6, .slice 2 0 1 16 16 16 none), (7, .slice 3 0 1 t0 0 16 none), (8, .nat .i64 v0.1 0 1), (9, .nat .i64 t0 0 16)], [(0, ⟨false, [.nats .u8 0 32 a0]⟩), (1, ⟨false, [.nats .i64 65535 16 a1]⟩), (2, ⟨false, [.nats .i64 65535 16 a2]⟩), (3, ⟨false, [.nats .i64 65535 t0 v0.2]⟩)], 4, [], []⟩
noncomputable def r6Add_0R (a0 : List Nat) (a1 : List Nat) (a2 : List Nat) (t0 : Nat) (v0 : Nat × List Nat) : St := ⟨[(4, .ptr 0 0), (5, .slice 1 0 1 16 16 16 none), (6, .slice 2 0 1 16 16 16 none), (7, .slice 3 0 1 t0 0 15 none), (8, .nat .i64 v0.1 0 1), (9, .nat .i64 t0 0 15)], [(0, ⟨false, [.nats .u8 0 32 a0]⟩), (1, ⟨false, [.nats .i64 65535 16 a1]⟩), (2, ⟨false, [.nats .i64 65535 16 a2]⟩), (3, ⟨false, [.nats .i64 65535 t0 v0.2]⟩)], 4, [], []⟩
noncomputable def r6Add_0s (a1 : List Nat) (a2 : List Nat) (t0 : Nat) (v0 : Nat × List Nat) : Nat × List Nat := (((((a1.getD t0 0) + (a2.getD t0 0)) + v0.1) / 65536), (v0.2 ++ (((List.replicate 1 0).set 0 ((((a1.getD t0 0) + (a2.getD t0 0)) + v0.1) % 65536)).take 1)))
noncomputable def r6Add_0l (a1 : List Nat) (a2 : List Nat) (v : Nat × List Nat) : Nat → Nat × List Nat
  | 0 => v
  | t + 1 => r6Add_0s a1 a2 t (r6Add_0l a1 a2 v t)
noncomputable def r6Add_0E (a0 : List Nat) (a1 : List Nat) (a2 : List Nat) (v0 : Nat × List Nat) : St := ⟨[(4, .ptr 0 0), (5, .slice 1 0 1 16 16 16 none), (6, .slice 2 0 1 16 16 16 none), (7, .slice 3 0 1 16 16 16 none), (8, .nat .i64 v0.1 0 1), (9, .nat .i64 16 16 16)], [(0, ⟨false, [.nats .u8 0 32 a0]⟩), (1, ⟨false, [.nats .i64 65535 16 a1]⟩), (2, ⟨false, [.nats .i64 65535 16 a2]⟩), (3, ⟨false, [.nats .i64 65535 16 v0.2]⟩)], 4, [], []⟩
noncomputable def r6Add_0X (a0 : List Nat) (v0 : Nat × List Nat) : St := ⟨[(4, .ptr 0 0), (7, .slice 1 0 1 16 16 16 none), (8, .nat .i64 v0.1 0 1)], [(0, ⟨false, [.nats .u8 0 32 a0]⟩), (1, ⟨false, [.nats .i64 65535 16 v0.2]⟩)], 2, [], []⟩
noncomputable def r6Add_v1 (a : List Nat) (b : List Nat) : List Nat := (r4Bytes_v1 (subL 0 16 (r6Mod_v3 (subL 0 17 ((r6Add_0l (r4Digits_v1 a) (r4Digits_v1 b) (0, []) 16).2 ++ (((List.replicate 1 0).set 0 (r6Add_0l (r4Digits_v1 a) (r4Digits_v1 b) (0, []) 16).1).take 1))))))
noncomputable def r6Add_P : List Pat := [.arr .u8 255 32, .arr .u8 255 32]
noncomputable def r6Add_R : List Bd → Option Ret := fun bs => match bs with
  | [.l a, .l b] => some (true, .nats .u8 255 32 (r6Add_v1 a b), [])
  | _ => none
noncomputable def r6Add_S : Sum := SumG r6Add_P [] r6Add_R

/-! bastille/bastilleref06.Mul -/
noncomputable def r6Mul_cuts : List Nat := [0, 2]
noncomputable def r6Mul_0H (a0 : List Nat) (a1 : List Nat) (a2 : List Nat) (t0 : Nat) (v0 : List Nat) : St := ⟨[(4, .ptr 0 0), (5, .slice 1 0 1 16 16 16 none), (6, .slice 2 0 1 16 16 16 none), (7, .slice 3 0 1 32 32 32 none), (8, .nat .i64 t0 0 16)], [(0, ⟨false, [.nats .u8 0 32 a0]⟩), (1, ⟨false, [.nats .i64 65535 16 a1]⟩), (2, ⟨false, [.nats .i64 65535 16 a2]⟩), (3, ⟨false, [.nats .i64 65535 32 v0]⟩)], 4, [], []⟩
noncomputable def r6Mul_0R (a0 : List Nat) (a1 : List Nat) (a2 : List Nat) (t0 : Nat) (v0 : List Nat) : St := ⟨[(4, .ptr 0 0), (5, .slice 1 0 1 16 16 16 none), (6, .slice 2 0 1 16 16 16 none), (7, .slice 3 0 1 32 32 32 none), (8, .nat .i64 t0 0 15)], [(0, ⟨false, [.nats .u8 0 32 a0]⟩), (1, ⟨false, [.nats .i64 65535 16 a1]⟩), (2, ⟨false, [.nats .i64 65535 16 a2]⟩), (3, ⟨false, [.nats .i64 65535 32 v0]⟩)], 4, [], []⟩
noncomputable def r6Mul_2H (t0 : Nat) (a0 : List Nat) (a1 : List Nat) (a2 : List Nat) (t1 : Nat) (v1 : Nat × List Nat) : St := ⟨[(4, .ptr 0 0), (5, .slice 1 0 1 16 16 16 none), (6, .slice 2 0 1 16 16 16 none), (7, .slice 3 0 1 32 32 32 none), (8, .nat .i64 t0 0 15), (9, .nat .i64 v1.1 0 65535), (10, .nat .i64 t1 0 16)], [(0, ⟨false, [.nats .u8 0 32 a0]⟩), (1, ⟨false, [.nats .i64 65535 16 a1]⟩), (2, ⟨false, [.nats .i64 65535 16 a2]⟩), (3, ⟨false, [.nats .i64 65535 32 v1.2]⟩)], 4, [], []⟩
noncomputable def r6Mul_2R (t0 : Nat) (a0 : List Nat) (a1 : List Nat) (a2 : List Nat) (t1 : Nat) (v1 : Nat × List Nat) : St := ⟨[(4, .ptr 0 0), (5, .slice 1 0 1 16 16 16 none), (6, .slice 2 0 1 16 16 16 none), (7, .slice 3 0 1 32 32 32 none), (8, .nat .i64 t0 0 15), (9, .nat .i64 v1.1 0 65535), (10, .nat .i64 t1 0 15)], [(0, ⟨false, [.nats .u8 0 32 a0]⟩), (1, ⟨false, [.nats .i64 65535 16 a1]⟩), (2, ⟨false, [.nats .i64 65535 16 a2]⟩), (3, ⟨false, [.nats .i64 65535 32 v1.2]⟩)], 4, [], []⟩
noncomputable def r6Mul_2s (t0 : Nat) (a1 : List Nat) (a2 : List Nat) (t1 : Nat) (v1 : Nat × List Nat) : Nat × List Nat := (((((v1.2.getD (t0 + t1) 0) + ((a1.getD t0 0) * (a2.getD t1 0))) + v1.1) / 65536), (v1.2.set (t0 + t1) ((((v1.2.getD (t0 + t1) 0) + ((a1.getD t0 0) * (a2.getD t1 0))) + v1.1) % 65536)))
noncomputable def r6Mul_2l (t0 : Nat) (a1 : List Nat) (a2 : List Nat) (v : Nat × List Nat) : Nat → Nat × List Nat
  | 0 => v
  | t + 1 => r6Mul_2s t0 a1 a2 t (r6Mul_2l t0 a1 a2 v t)
noncomputable def r6Mul_2E (t0 : Nat) (a0 : List Nat) (a1 : List Nat) (a2 : List Nat) (v1 : Nat × List Nat) : St := ⟨[(4, .ptr 0 0), (5, .slice 1 0 1 16 16 16 none), (6, .slice 2 0 1 16 16 16 none), (7, .slice 3 0 1 32 32 32 none), (8, .nat .i64 t0 0 15), (9, .nat .i64 v1.1 0 65535), (10, .nat .i64 16 16 16)], [(0, ⟨false, [.nats .u8 0 32 a0]⟩), (1, ⟨false, [.nats .i64 65535 16 a1]⟩), (2, ⟨false, [.nats .i64 65535 16 a2]⟩), (3, ⟨false, [.nats .i64 65535 32 v1.2]⟩)], 4, [], []⟩
noncomputable def r6Mul_2X (t0 : Nat) (a0 : List Nat) (a1 : List Nat) (a2 : List Nat) (v1 : Nat × List Nat) : St := ⟨[(4, .ptr 0 0), (5, .slice 1 0 1 16 16 16 none), (6, .slice 2 0 1 16 16 16 none), (7, .slice 3 0 1 32 32 32 none), (8, .nat .i64 t0 0 15), (9, .nat .i64 v1.1 0 65535)], [(0, ⟨false, [.nats .u8 0 32 a0]⟩), (1, ⟨false, [.nats .i64 65535 16 a1]⟩), (2, ⟨false, [.nats .i64 65535 16 a2]⟩), (3, ⟨false, [.nats .i64 65535 32 v1.2]⟩)], 4, [], []⟩
noncomputable def r6Mul_0s (a1 : List Nat) (a2 : List Nat) (t0 : Nat) (v0 : List Nat) : List Nat := ((r6Mul_2l t0 a1 a2 (0, v0) 16).2.set (t0 + 16) (((r6Mul_2l t0 a1 a2 (0, v0) 16).2.getD (t0 + 16) 0) + (r6Mul_2l t0 a1 a2 (0, v0) 16).1))
noncomputable def r6Mul_0l (a1 : List Nat) (a2 : List Nat) (v : List Nat) : Nat → List Nat
  | 0 => v
  | t + 1 => r6Mul_0s a1 a2 t (r6Mul_0l a1 a2 v t)
noncomputable def r6Mul_0E (a0 : List Nat) (a1 : List Nat) (a2 : List Nat) (v0 : List Nat) : St := ⟨[(4, .ptr 0 0), (5, .slice 1 0 1 16 16 16 none), (6, .slice 2 0 1 16 16 16 none), (7, .slice 3 0 1 32 32 32 none), (8, .nat .i64 16 16 16)], [(0, ⟨false, [.nats .u8 0 32 a0]⟩), (1, ⟨false, [.nats .i64 65535 16 a1]⟩), (2, ⟨false, [.nats .i64 65535 16 a2]⟩), (3, ⟨false, [.nats .i64 65535 32 v0]⟩)], 4, [], []⟩
noncomputable def r6Mul_0X (a0 : List Nat) (v0 : List Nat) : St := ⟨[(4, .ptr 0 0), (7, .slice 1 0 1 32 32 32 none)], [(0, ⟨false, [.nats .u8 0 32 a0]⟩), (1, ⟨false, [.nats .i64 65535 32 v0]⟩)], 2, [], []⟩
noncomputable def r6Mul_y1 (a : List Nat) (b : List Nat) : List Nat := (r6Mul_0l (r4Digits_v1 a) (r4Digits_v1 b) (List.replicate 32 0) 16)
noncomputable def r6Mul_v2 (a : List Nat) (b : List Nat) : List Nat := (r4Bytes_v1 (subL 0 16 (r6Mod_v3 (subL 0 32 (r6Mul_y1 a b)))))
noncomputable def r6Mul_P : List Pat := [.arr .u8 255 32, .arr .u8 255 32]
noncomputable def r6Mul_R : List Bd → Option Ret := fun bs => match bs with
  | [.l a, .l b] => some (true, .nats .u8 255 32 (r6Mul_v2 a b), [])
  | _ => none
noncomputable def r6Mul_S : Sum := SumG r6Mul_P [] r6Mul_R
end Go.Bx

/-
  The reference's scalars: products' rows.
-/
namespace Go.Bx

theorem r4Digits_eq (b : List Nat) : r4Digits_v1 b = digitsW b := by kernel_rfl
theorem r4Digits_le {b : List Nat} (hb : ∀ x ∈ b, x ≤ 255) : ∀ x ∈ r4Digits_v1 b, x ≤ 65535 := by
  rw [r4Digits_eq]; exact digitsW_le hb
theorem r4Bytes_eq (a : List Nat) : r4Bytes_v1 a = rbytesW a := by kernel_rfl

/-- Where a product's rows begin. -/
structure MulPre (a b v : List Nat) : Prop where
  a : ∀ x ∈ a, x ≤ 65535
  b : ∀ x ∈ b, x ≤ 65535
  v : v = List.replicate 32 0

theorem r6Mul_in (t0 : Nat) (a b v : List Nat) : ∀ j, r6Mul_2l t0 a b (0, v) j = ((iter (rmulIn (a.getD t0 0) b t0) j (v, 0)).2, (iter (rmulIn (a.getD t0 0) b t0) j (v, 0)).1)
  | 0 => rfl
  | j + 1 => by
    rw [r6Mul_2l, r6Mul_in t0 a b v j]
    rfl
theorem r6Mul_rows (a b v : List Nat) : ∀ t, r6Mul_0l a b v t = iter (rmulRow a b) t v
  | 0 => rfl
  | t + 1 => by
    have e : r6Mul_0l a b v (t + 1) = r6Mul_0s a b t (r6Mul_0l a b v t) := rfl
    rw [e, r6Mul_rows a b v t]
    unfold r6Mul_0s
    rw [r6Mul_in]
    rfl

theorem mulRows_ok {xs ys : List Nat} (hx : ∀ x ∈ xs, x ≤ 65535) (hy : ∀ y ∈ ys, y ≤ 65535) (hl' : ys.length = 16) : ∀ i, i ≤ 16 → ∀ t, t = iter (rmulRow xs ys) i (List.replicate 32 0) → t.length = 32 ∧ (∀ d ∈ t, d ≤ 65535) ∧ (∀ k, i + 16 ≤ k → t.getD k 0 = 0) ∧ valL t = valL (xs.take i) * valL ys := by
  intro i
  induction i with
  | zero =>
    intro _ t ht
    subst ht
    refine ⟨rfl, fun d hd => by simp [iter] at hd; omega, fun k hk => ?_, ?_⟩
    · rw [List.getD_eq_getElem?_getD]
      simp only [iter, List.getElem?_replicate]
      split <;> rfl
    · simp only [iter, List.take_zero, valL, Nat.zero_mul]; decide
  | succ i ih =>
    intro hi t ht
    obtain ⟨h1, h2, h3, h4⟩ := ih (by omega) _ rfl
    have hs : iter (rmulRow xs ys) (i + 1) (List.replicate 32 0) = rmulRow xs ys i (iter (rmulRow xs ys) i (List.replicate 32 0)) := rfl
    rw [hs] at ht
    generalize iter (rmulRow xs ys) i (List.replicate 32 0) = r at *
    obtain ⟨g1, g2, g3, g4, g5⟩ := rmulIn_ok (getD_le hx i) hy h1 h2 (i := i) (by omega) 16 (Nat.le_refl _) _ rfl
    have e : rmulRow xs ys i r = (iter (rmulIn (xs.getD i 0) ys i) 16 (r, 0)).1.set (i + 16) ((iter (rmulIn (xs.getD i 0) ys i) 16 (r, 0)).1.getD (i + 16) 0 + (iter (rmulIn (xs.getD i 0) ys i) 16 (r, 0)).2) := by simp only [rmulRow]
    rw [e] at ht
    generalize iter (rmulIn (xs.getD i 0) ys i) 16 (r, 0) = p at *
    have hz : p.1.getD (i + 16) 0 = 0 := by rw [g4 _ (Nat.le_refl _), h3 _ (Nat.le_refl _)]
    rw [hz, Nat.zero_add] at ht
    subst ht
    have hlen : i + 16 < p.1.length := by omega
    have hset := valL_set p.1 (i + 16) p.2 hlen
    rw [hz] at hset
    refine ⟨by simpa using g1, set_le g2 g3, fun k hk => ?_, ?_⟩
    · rw [getD_setN _ _ _ _ hlen, if_neg (by omega), g4 k (by omega), h3 k (by omega)]
    · rw [valL_all (l := ys) (n := 16) (by omega)] at g5
      rw [valL_take, Nat.add_mul, ← h4, Nat.mul_comm (xs.getD i 0), Nat.mul_assoc]
      omega

theorem digitsW_len (b : List Nat) : (digitsW b).length = 16 := rfl
theorem mulRows_le {xs ys : List Nat} (hx : ∀ x ∈ xs, x ≤ 65535) (hy : ∀ y ∈ ys, y ≤ 65535) : ∀ i, i ≤ 16 → ∀ t, t = iter (rmulRow xs ys) i (List.replicate 32 0) → t.length = 32 ∧ (∀ d ∈ t, d ≤ 65535) ∧ (∀ k, i + 16 ≤ k → t.getD k 0 = 0) := by
  intro i
  induction i with
  | zero =>
    intro _ t ht
    subst ht
    refine ⟨rfl, fun d hd => by simp [iter] at hd; omega, fun k hk => ?_⟩
    rw [List.getD_eq_getElem?_getD]
    simp only [iter, List.getElem?_replicate]
    split <;> rfl
  | succ i ih =>
    intro hi t ht
    obtain ⟨h1, h2, h3⟩ := ih (by omega) _ rfl
    have hs : iter (rmulRow xs ys) (i + 1) (List.replicate 32 0) = rmulRow xs ys i (iter (rmulRow xs ys) i (List.replicate 32 0)) := rfl
    rw [hs] at ht
    generalize iter (rmulRow xs ys) i (List.replicate 32 0) = r at *
    obtain ⟨g1, g2, g3, g4, _⟩ := rmulIn_ok (getD_le hx i) hy h1 h2 (i := i) (by omega) 16 (Nat.le_refl _) _ rfl
    have e : rmulRow xs ys i r = (iter (rmulIn (xs.getD i 0) ys i) 16 (r, 0)).1.set (i + 16) ((iter (rmulIn (xs.getD i 0) ys i) 16 (r, 0)).1.getD (i + 16) 0 + (iter (rmulIn (xs.getD i 0) ys i) 16 (r, 0)).2) := by simp only [rmulRow]
    rw [e] at ht
    generalize iter (rmulIn (xs.getD i 0) ys i) 16 (r, 0) = p at *
    have hz : p.1.getD (i + 16) 0 = 0 := by rw [g4 _ (Nat.le_refl _), h3 _ (Nat.le_refl _)]
    rw [hz, Nat.zero_add] at ht
    subst ht
    have hlen : i + 16 < p.1.length := by omega
    refine ⟨by simpa using g1, set_le g2 g3, fun k hk => ?_⟩
    rw [getD_setN _ _ _ _ hlen, if_neg (by omega), g4 k (by omega), h3 k (by omega)]

theorem r6Mul_le {a b v : List Nat} (hp : MulPre a b v) {t : Nat} (ht : t ≤ 16) : ∀ x ∈ r6Mul_0l a b v t, x ≤ 65535 := by
  obtain ⟨h1, h2, rfl⟩ := hp
  rw [r6Mul_rows]
  exact (mulRows_le h1 h2 t ht _ rfl).2.1

end Go.Bx

/-
  The reference's scalars: their values.
-/
namespace Go.Bx

/-! ### Comparing -/
theorem atl_go {a b : List Nat} (ha : ∀ x ∈ a, x ≤ 65535) (hb : ∀ x ∈ b, x ≤ 65535) : ∀ k s, s + k = 17 → firstHit (fun t => !Nat.beq (a.getD (16 - t) 0) (b.getD (16 - t) 0)) (fun t => Nat.blt (b.getD (16 - t) 0) (a.getD (16 - t) 0)) true s k = atLeastW a b k
  | 0, s, _ => rfl
  | k + 1, s, h => by
    rw [firstHit, atLeastW]
    have e : 16 - s = k := by omega
    rw [e, atl_go ha hb k (s + 1) (by omega)]
theorem r4AtLeast_eq {a b : List Nat} (ha : ∀ x ∈ a, x ≤ 65535) (hb : ∀ x ∈ b, x ≤ 65535) (la : a.length = 17) (lb : b.length = 17) : r4AtLeast_z1 a b = decide (valL b ≤ valL a) := by
  have h := atLeastW_ok ha hb 17
  rw [valL_all (by omega), valL_all (by omega)] at h
  rw [← h, ← atl_go ha hb 17 0 rfl]
  rfl

/-! ### Taking away -/
theorem lessSt_val {a b : List Nat} (ha : ∀ x ∈ a, x ≤ 65535) (hb : ∀ x ∈ b, x ≤ 65535) : ∀ t, valL (lessSt a b t).2 + valL (b.take t) = valL (a.take t) + (lessSt a b t).1 * 65536 ^ t
  | 0 => by simp [lessSt, valL]
  | t + 1 => by
    have ih := lessSt_val ha hb t
    obtain ⟨h1, h2, h3⟩ := lessSt_le a b t
    have x1 := getD_le ha t
    have x2 := getD_le hb t
    rw [lessSt, valL_take, valL_take, valL_append, h3]
    simp only [valL]
    generalize (lessSt a b t).2 = l at *
    generalize (lessSt a b t).1 = br at *
    generalize a.getD t 0 = x at *
    generalize b.getD t 0 = y at *
    rw [Nat.pow_succ]
    generalize 65536 ^ t = u at *
    generalize valL l = vl at *
    generalize valL (b.take t) = vb at *
    generalize valL (a.take t) = va at *
    rcases bool_cases (Nat.blt x (y + br)) with h | h
    · have := blt_lt h
      rw [h, cond_true]
      have e : (65536 + x - y - br) % 65536 = 65536 + x - y - br := Nat.mod_eq_of_lt (by omega)
      rw [e]
      have k1 : u * (65536 + x - y - br + 65536 * 0) + y * u + br * u = u * 65536 + x * u := by
        rw [Nat.mul_comm y, Nat.mul_comm br, Nat.mul_comm x, ← Nat.mul_add, ← Nat.mul_add, ← Nat.mul_add]
        congr 1
        omega
      omega
    · have := blt_no h
      rw [h, cond_false]
      have e : (65536 + x - y - br) % 65536 = x - y - br := by omega
      rw [e]
      have k1 : u * (x - y - br + 65536 * 0) + y * u + br * u = x * u := by
        rw [Nat.mul_comm y, Nat.mul_comm br, Nat.mul_comm x, ← Nat.mul_add, ← Nat.mul_add]
        congr 1
        omega
      omega
theorem lessL_val {a b : List Nat} (ha : ∀ x ∈ a, x ≤ 65535) (hb : ∀ x ∈ b, x ≤ 65535) {n : Nat} (la : a.length = n) (lb : b.length = n) (hle : valL b ≤ valL a) : valL (lessL a b n) = valL a - valL b ∧ (lessL a b n).length = n ∧ ∀ x ∈ lessL a b n, x ≤ 65535 := by
  have h := lessSt_val ha hb n
  obtain ⟨h1, h2, h3⟩ := lessSt_le a b n
  rw [valL_all (by omega), valL_all (by omega)] at h
  refine ⟨?_, h3, h2⟩
  have hlt := valL_lt _ h2
  rw [h3] at hlt
  unfold lessL
  generalize (lessSt a b n).2 = l at *
  have hz : (lessSt a b n).1 = 0 := by
    rcases Nat.eq_zero_or_pos (lessSt a b n).1 with h0 | h0
    · exact h0
    · exfalso
      have e : (lessSt a b n).1 = 1 := by omega
      rw [e] at h
      omega
  rw [hz] at h
  omega

/-! ### Twice, and a bit -/
theorem dbl_val (v : List Nat) (hv : v.length = 17) (hd : ∀ x ∈ v, x ≤ 65535) (c : Nat) (hc : c ≤ 1) : ∀ k, k ≤ 17 → ∀ p, p = r6Mod_4l (c, v) k → p.2.length = 17 ∧ (∀ x ∈ p.2, x ≤ 65535) ∧ p.1 ≤ 1 ∧ (∀ j, k ≤ j → p.2.getD j 0 = v.getD j 0) ∧ valL p.2 + p.1 * 65536 ^ k = valL v + valL (v.take k) + c
  | 0, _, p, hp => by
    subst hp
    exact ⟨hv, hd, hc, fun _ _ => rfl, by simp [r6Mod_4l, valL]⟩
  | k + 1, hk, p, hp => by
    obtain ⟨h1, h2, h3, h4, h5⟩ := dbl_val v hv hd c hc k (by omega) _ rfl
    have hs : r6Mod_4l (c, v) (k + 1) = r6Mod_4s k (r6Mod_4l (c, v) k) := rfl
    rw [hs] at hp
    generalize r6Mod_4l (c, v) k = q at *
    obtain ⟨cc, w⟩ := q
    simp only at h1 h2 h3 h4 h5
    unfold r6Mod_4s at hp
    simp only at hp
    have hw := getD_le h2 k
    have hkv := h4 k (Nat.le_refl _)
    subst hp
    have hset := valL_set w k ((2 * w.getD k 0 + cc) % 65536) (by omega)
    refine ⟨by simpa using h1, set_le h2 (by omega), by omega, fun j hj => ?_, ?_⟩
    · rw [getD_setN _ _ _ _ (by omega), if_neg (by omega)]
      exact h4 j (by omega)
    · simp only
      rw [valL_take, ← hkv, Nat.pow_succ]
      generalize w.getD k 0 = x at *
      generalize 65536 ^ k = u at *
      generalize valL (w.set k ((2 * x + cc) % 65536)) = vs at *
      generalize hn : 2 * x + cc = n at *
      have e3 : n / 65536 * (u * 65536) + n % 65536 * u = n * u := by
        rw [Nat.mul_comm u 65536, ← Nat.mul_assoc, ← Nat.add_mul]
        congr 1; omega
      have e4 : n * u = x * u + x * u + cc * u := by rw [← hn, Nat.add_mul, Nat.mul_assoc, Nat.two_mul]
      omega

/-! ### Modulo the order -/
noncomputable def q17 : List Nat := qDig ++ (((List.replicate 1 0).set 0 0).take 1)
theorem q17_ok : q17.length = 17 ∧ (∀ x ∈ q17, x ≤ 65535) ∧ valL q17 = ordQ := by
  refine ⟨rfl, ?_, ?_⟩
  · unfold q17; decide
  · unfold q17; decide
theorem ordQ_lt : ordQ < 2 ^ 253 := by decide
theorem subL_all {l : List Nat} {n : Nat} (h : l.length = n) : subL 0 n l = l := by
  unfold subL
  rw [List.drop_zero, List.take_of_length_le (by omega)]

/-- A remainder's digits. -/
structure RemQ (v : List Nat) (n : Nat) : Prop where
  len : v.length = 17
  le : ∀ x ∈ v, x ≤ 65535
  val : valL v = n % ordQ
theorem RemQ.lt {v : List Nat} {n : Nat} (h : RemQ v n) : valL v < ordQ := by
  rw [h.val]; exact Nat.mod_lt _ (by decide)

theorem RemQ.congr {v : List Nat} {n m : Nat} (h : RemQ v n) (e : n = m) : RemQ v m := e ▸ h

theorem mod_two {v L c n : Nat} (hv : v = n % L) : (2 * v + c) % L = (2 * n + c) % L := by
  rw [hv, Nat.add_mod, Nat.mul_mod, Nat.mod_mod, ← Nat.mul_mod, ← Nat.add_mod]

theorem modStep {v : List Nat} {n c : Nat} (h : RemQ v n) (hc : c ≤ 1) {w : List Nat} (hw : w = (r6Mod_4l (c, v) 17).2) : RemQ (bif (r4AtLeast_z1 (subL 0 17 w) (subL 0 17 q17)) then (lessL (subL 0 17 w) (subL 0 17 q17) 17) else w) (2 * n + c) := by
  obtain ⟨q1, q2, q3⟩ := q17_ok
  obtain ⟨h1, h2, _, _, h5⟩ := dbl_val v h.len h.le c hc 17 (Nat.le_refl _) _ rfl
  rw [← hw] at h1 h2 h5
  rw [valL_all (by rw [h.len]; omega)] at h5
  have hlt := h.lt
  have hb := ordQ_lt
  have hz : (r6Mod_4l (c, v) 17).1 = 0 := by
    rcases Nat.eq_zero_or_pos (r6Mod_4l (c, v) 17).1 with h0 | h0
    · exact h0
    · exfalso
      have : 65536 ^ 17 ≤ (r6Mod_4l (c, v) 17).1 * 65536 ^ 17 := Nat.le_mul_of_pos_left _ h0
      omega
  rw [hz, Nat.zero_mul, Nat.add_zero] at h5
  have hval : valL w = 2 * valL v + c := by omega
  have hmod : (2 * valL v + c) % ordQ = (2 * n + c) % ordQ := mod_two h.val
  rw [subL_all h1, subL_all q1, r4AtLeast_eq h2 q2 h1 q1, q3]
  rcases Nat.lt_or_ge (valL w) ordQ with hlo | hhi
  · rw [decide_eq_false (by omega), cond_false]
    exact ⟨h1, h2, by rw [← hmod, ← hval, Nat.mod_eq_of_lt hlo]⟩
  · rw [decide_eq_true hhi, cond_true]
    obtain ⟨g1, g2, g3⟩ := lessL_val h2 q2 h1 q1 (by rw [q3]; exact hhi)
    refine ⟨g2, g3, ?_⟩
    rw [g1, q3, ← hmod, ← hval]
    generalize valL w = x at *
    generalize ordQ = L at *
    have hx : x < 2 * L := by omega
    rw [Nat.mod_eq_sub_mod hhi, Nat.mod_eq_of_lt (by omega)]

/-- A digit's bits, one after the other. -/
theorem modBits {a : List Nat} (ha : ∀ x ∈ a, x ≤ 65535) {v : List Nat} {n t0 : Nat} (h : RemQ v n) : ∀ s, s ≤ 16 → RemQ (r6Mod_2l a t0 q17 v s) (2 ^ s * n + a.getD (a.length - 1 - t0) 0 / 2 ^ (16 - s))
  | 0, _ => by
    have hd := getD_le ha (a.length - 1 - t0)
    have e : a.getD (a.length - 1 - t0) 0 / 2 ^ (16 - 0) = 0 := Nat.div_eq_of_lt (by omega)
    rw [e, Nat.pow_zero, Nat.one_mul, Nat.add_zero]
    exact h
  | s + 1, hs => by
    have ih := modBits ha (t0 := t0) h s (by omega)
    have e : r6Mod_2l a t0 q17 v (s + 1) = r6Mod_2s a t0 q17 s (r6Mod_2l a t0 q17 v s) := rfl
    rw [e]
    generalize r6Mod_2l a t0 q17 v s = r at *
    have hy : r6Mod_y1 a t0 s r = r6Mod_4l (a.getD (a.length - 1 - t0) 0 / (2 ^ 15 / 2 ^ s) % 2, r) 17 := by rw [r6Mod_y1]
    have hstep := modStep ih (c := a.getD (a.length - 1 - t0) 0 / (2 ^ 15 / 2 ^ s) % 2) (by omega) rfl
    rw [r6Mod_2s, hy]
    generalize r6Mod_4l (a.getD (a.length - 1 - t0) 0 / (2 ^ 15 / 2 ^ s) % 2, r) 17 = p at *
    clear hy ih
    generalize (bif (r4AtLeast_z1 (subL 0 17 p.2) (subL 0 17 q17)) then (lessL (subL 0 17 p.2) (subL 0 17 q17) 17) else p.2) = z at *
    refine hstep.congr ?_
    clear hstep
    generalize a.getD (a.length - 1 - t0) 0 = d
    have e1 : 2 ^ 15 / 2 ^ s = 2 ^ (15 - s) := Nat.pow_div (by omega) (by omega)
    have e2 : 16 - s = (15 - s) + 1 := by omega
    have e3 : 16 - (s + 1) = 15 - s := by omega
    rw [e1, e2, e3, Nat.pow_succ, Nat.pow_succ, ← Nat.div_div_eq_div_mul, Nat.mul_right_comm (2 ^ s)]
    generalize d / 2 ^ (15 - s) = x
    generalize 2 ^ s * n = y
    omega

theorem drop_val (a : List Nat) {k : Nat} (h : k < a.length) : valL (a.drop k) = a.getD k 0 + 65536 * valL (a.drop (k + 1)) := by
  rw [List.drop_eq_getElem_cons h, valL, List.getD_eq_getElem?_getD, List.getElem?_eq_getElem h]
  rfl

theorem modDigits {a : List Nat} (ha : ∀ x ∈ a, x ≤ 65535) : ∀ t, t ≤ a.length → RemQ (r6Mod_0l a q17 (List.replicate 17 0) t) (valL (a.drop (a.length - t)))
  | 0, _ => by
    refine ⟨rfl, fun x hx => ?_, ?_⟩
    · have := List.eq_of_mem_replicate hx; omega
    · rw [Nat.sub_zero, List.drop_length]
      show valL (List.replicate 17 0) = valL [] % ordQ
      decide
  | t + 1, ht => by
    have ih := modDigits ha t (by omega)
    have e : r6Mod_0l a q17 (List.replicate 17 0) (t + 1) = r6Mod_2l a t q17 (r6Mod_0l a q17 (List.replicate 17 0) t) 16 := by rw [r6Mod_0l, r6Mod_0s]
    rw [e]
    clear e
    generalize r6Mod_0l a q17 (List.replicate 17 0) t = v at *
    have h := modBits ha ih (t0 := t) 16 (Nat.le_refl _)
    refine ⟨h.len, h.le, h.val.trans ?_⟩
    congr 1
    have e1 : a.length - (t + 1) = a.length - 1 - t := by omega
    have e2 : a.length - t = a.length - 1 - t + 1 := by omega
    rw [e1, drop_val a (k := a.length - 1 - t) (by omega), ← e2, Nat.sub_self, Nat.pow_zero, Nat.div_one]
    omega

theorem r6Mod_ok {a : List Nat} (ha : ∀ x ∈ a, x ≤ 65535) (hl : 1 ≤ a.length) : RemQ (r6Mod_v3 a) (valL a) := by
  have h := modDigits ha a.length (Nat.le_refl _)
  rw [Nat.sub_self, List.drop_zero] at h
  unfold r6Mod_v3 r6Mod_y2
  have e : a.length - 1 + 1 = a.length := by omega
  rw [e]
  exact h

theorem RemQ.dig {v : List Nat} {n : Nat} (h : RemQ v n) : subL 0 16 v = digN (n % ordQ) := by
  have hlt := h.lt
  have hb := ordQ_lt
  have h16 := valL_take v 16
  rw [List.take_of_length_le (by rw [h.len]; omega)] at h16
  have hz : v.getD 16 0 = 0 := by
    rcases Nat.eq_zero_or_pos (v.getD 16 0) with h0 | h0
    · exact h0
    · exfalso
      have : 65536 ^ 16 ≤ v.getD 16 0 * 65536 ^ 16 := Nat.le_mul_of_pos_left _ h0
      omega
  rw [hz, Nat.zero_mul, Nat.add_zero] at h16
  unfold subL
  rw [List.drop_zero, ← h.val, h16, digN_valL (by rw [List.length_take, h.len]; rfl) fun d hd => h.le d (List.mem_of_mem_take hd)]

/-- The bytes of a remainder. -/
theorem RemQ.bytes {v : List Nat} {n : Nat} (h : RemQ v n) : r4Bytes_v1 (subL 0 16 v) = leBytes (n % ordQ) := by
  rw [r4Bytes_eq, h.dig, rbytesW_ok]

/-! ### Products and sums -/
/-- The number of some bytes. -/
noncomputable def numV (b : List Nat) : Nat := valL (digitsW b)

theorem r6Mul_ok {a b : List Nat} (ha : ∀ x ∈ a, x ≤ 255) (hb : ∀ x ∈ b, x ≤ 255) : r6Mul_v2 a b = leBytes (numV a * numV b % ordQ) := by
  have h1 := digitsW_le ha
  have h2 := digitsW_le hb
  obtain ⟨g1, g2, _, g4⟩ := mulRows_ok h1 h2 rfl 16 (Nat.le_refl _) _ rfl
  rw [valL_all (l := digitsW a) (n := 16) (Nat.le_refl _)] at g4
  unfold r6Mul_v2 r6Mul_y1
  rw [r4Digits_eq, r4Digits_eq, r6Mul_rows]
  generalize iter (rmulRow (digitsW a) (digitsW b)) 16 (List.replicate 32 0) = w at *
  rw [subL_all g1, (r6Mod_ok g2 (by omega)).bytes, g4]
  rfl

theorem addSt_val {a b : List Nat} (ha : ∀ x ∈ a, x ≤ 65535) (hb : ∀ x ∈ b, x ≤ 65535) : ∀ k p, p = r6Add_0l a b (0, []) k → p.1 ≤ 1 ∧ (∀ x ∈ p.2, x ≤ 65535) ∧ p.2.length = k ∧ valL p.2 + p.1 * 65536 ^ k = valL (a.take k) + valL (b.take k)
  | 0, p, hp => by
    subst hp
    exact ⟨by simp [r6Add_0l], fun x hx => by simp [r6Add_0l] at hx, rfl, by simp [r6Add_0l, valL]⟩
  | k + 1, p, hp => by
    obtain ⟨h1, h2, h3, h4⟩ := addSt_val ha hb k _ rfl
    have hs : r6Add_0l a b (0, []) (k + 1) = r6Add_0s a b k (r6Add_0l a b (0, []) k) := rfl
    rw [hs] at hp
    generalize r6Add_0l a b (0, []) k = q at *
    obtain ⟨c, w⟩ := q
    simp only at h1 h2 h3 h4
    unfold r6Add_0s at hp
    simp only at hp
    have x1 := getD_le ha k
    have x2 := getD_le hb k
    have hset : ∀ z : Nat, ((List.replicate 1 0).set 0 z).take 1 = [z] := fun z => rfl
    rw [hset] at hp
    subst hp
    refine ⟨by simp only; omega, fun x hx => ?_, by simp [h3], ?_⟩
    · rcases List.mem_append.1 hx with hx | hx
      · exact h2 x hx
      · simp only [List.mem_singleton] at hx
        omega
    · simp only
      rw [valL_append, valL_take, valL_take, h3, Nat.pow_succ]
      simp only [valL]
      generalize a.getD k 0 = x at *
      generalize b.getD k 0 = y at *
      generalize 65536 ^ k = u at *
      generalize hn : x + y + c = n
      have e3 : n / 65536 * (u * 65536) + u * (n % 65536 + 65536 * 0) = n * u := by
        rw [Nat.mul_comm u 65536, ← Nat.mul_assoc, Nat.mul_comm u, ← Nat.add_mul]
        congr 1; omega
      have e4 : n * u = x * u + y * u + c * u := by rw [← hn, Nat.add_mul, Nat.add_mul]
      omega

theorem r6Add_ok {a b : List Nat} (ha : ∀ x ∈ a, x ≤ 255) (hb : ∀ x ∈ b, x ≤ 255) : r6Add_v1 a b = leBytes ((numV a + numV b) % ordQ) := by
  have h1 := digitsW_le ha
  have h2 := digitsW_le hb
  obtain ⟨g1, g2, g3, g4⟩ := addSt_val h1 h2 16 _ rfl
  rw [valL_all (l := digitsW a) (n := 16) (Nat.le_refl _), valL_all (l := digitsW b) (n := 16) (Nat.le_refl _)] at g4
  have hset : ∀ z : Nat, ((List.replicate 1 0).set 0 z).take 1 = [z] := fun z => rfl
  have e0 : r6Add_v1 a b = r4Bytes_v1 (subL 0 16 (r6Mod_v3 (subL 0 17 ((r6Add_0l (digitsW a) (digitsW b) (0, []) 16).2 ++ [(r6Add_0l (digitsW a) (digitsW b) (0, []) 16).1])))) := by
    unfold r6Add_v1
    rw [r4Digits_eq, r4Digits_eq, hset]
  rw [e0]
  clear e0
  generalize r6Add_0l (digitsW a) (digitsW b) (0, []) 16 = p at *
  have hlen : (p.2 ++ [p.1]).length = 17 := by simp [g3]
  have hle : ∀ x ∈ p.2 ++ [p.1], x ≤ 65535 := fun x hx => by
    rcases List.mem_append.1 hx with hx | hx
    · exact g2 x hx
    · simp only [List.mem_singleton] at hx; omega
  have hv : valL (p.2 ++ [p.1]) = numV a + numV b := by
    rw [valL_append, g3]
    simp only [valL]
    unfold numV
    generalize 65536 ^ 16 = u at *
    have : u * (p.1 + 65536 * 0) = p.1 * u := by rw [Nat.mul_zero, Nat.add_zero, Nat.mul_comm]
    omega
  rw [subL_all hlen, (r6Mod_ok hle (by omega)).bytes, hv]

end Go.Bx
