/-
  An element and the reference's number of the same value.
-/
import Derived.Test.YtjgegdipellpbaaFeA

namespace Go.Bx

noncomputable def rAdd (ds es : List Nat) : List Nat := digN ((valL ds + valL es) % P25)
noncomputable def rMul (ds es : List Nat) : List Nat := digN (valL ds * valL es % P25)

structure Rep (X : List Int) (n : Nat) (w : List Nat) : Prop where
  el : Elem X
  fv : fval X = n
  dg : w = digN n

theorem Rep.lt {X : List Int} {n : Nat} {w : List Nat} (h : Rep X n w) : n < P25 := h.fv ▸ fval_lt X
theorem Rep.lt16 {X : List Int} {n : Nat} {w : List Nat} (h : Rep X n w) : n < 65536 ^ 16 := h.fv ▸ fval_lt16 X
theorem Rep.val {X : List Int} {n : Nat} {w : List Nat} (h : Rep X n w) : valL w = n := by rw [h.dg, valL_digN h.lt16]

theorem Rep.of {b : List Nat} (hb : ∀ x ∈ b, x ≤ 255) : Rep ((ofW b).map Int.ofNat) (ofV b % P25) (digN (ofV b % P25)) := ⟨(ofE hb).1, (ofE hb).2, rfl⟩

theorem Rep.add {X Y : List Int} {n m : Nat} {w v : List Nat} (h : Rep X n w) (k : Rep Y m v) : Rep (addW X Y) ((n + m) % P25) (rAdd w v) := by
  obtain ⟨h1, h2⟩ := addW_ok h.el k.el
  exact ⟨h1, by rw [h2, h.fv, k.fv], by rw [rAdd, h.val, k.val]⟩

theorem Rep.mul {X Y : List Int} {n m : Nat} {w v : List Nat} (h : Rep X n w) (k : Rep Y m v) : Rep (mulW X Y) (n * m % P25) (rMul w v) := by
  obtain ⟨h1, h2⟩ := mulW_ok h.el k.el
  exact ⟨h1, by rw [h2, h.fv, k.fv], by rw [rMul, h.val, k.val]⟩

theorem Rep.sub {X Y : List Int} {n m : Nat} {w v : List Nat} (h : Rep X n w) (k : Rep Y m v) : Rep (subW X Y) ((n + (P25 - m)) % P25) (rsubW w v) := by
  obtain ⟨h1, h2⟩ := subW_ok h.el k.el
  exact ⟨h1, by rw [h2, h.fv, k.fv], by rw [h.dg, k.dg, rsubW_ok h.lt k.lt]⟩

theorem Rep.neg {X : List Int} {n : Nat} {w : List Nat} (h : Rep X n w) : Rep (negW X) ((0 + (P25 - n)) % P25) (rsubW (smallN 0) w) := by
  obtain ⟨h1, h2⟩ := negW_ok h.el
  exact ⟨h1, by rw [h2, h.fv, Nat.zero_add], by rw [h.dg, smallN_ok (by omega), rsubW_ok (by decide) h.lt]⟩

theorem Rep.bytes {X : List Int} {n : Nat} {w : List Nat} (h : Rep X n w) : (bytesW X == rbytesW w) = true := by
  rw [bytesW_ok h.el, h.fv, h.dg, rbytesW_ok]; simp

theorem Rep.bytes' {X : List Int} {n : Nat} {w : List Nat} (h : Rep X n w) : bytesW X = leBytes n ∧ rbytesW w = leBytes n := ⟨by rw [bytesW_ok h.el, h.fv], by rw [h.dg, rbytesW_ok]⟩

noncomputable def fsE (X Y : List Int) (w v : List Nat) : Bool :=
  bif bif !bytesW (addW X Y) == rbytesW (rAdd w v) then true
    else bif !bytesW (subW X Y) == rbytesW (rsubW w v) then true
    else bif !bytesW (mulW X Y) == rbytesW (rMul w v) then true
    else !bytesW (negW X) == rbytesW (rsubW (smallN 0) w) then false
  else bif bytesW (addW (mulW (addW X Y) (subW X Y)) Y) == rbytesW (rAdd (rMul (rAdd w v) (rsubW w v)) v) then
    bytesW (mulW (addW (mulW (addW X Y) (subW X Y)) Y) (addW (mulW (addW X Y) (subW X Y)) Y)) == rbytesW (rMul (rAdd (rMul (rAdd w v) (rsubW w v)) v) (rAdd (rMul (rAdd w v) (rsubW w v)) v))
  else false

theorem fsE_true {X Y : List Int} {n m : Nat} {w v : List Nat} (h : Rep X n w) (k : Rep Y m v) : fsE X Y w v = true := by
  have z := ((h.add k).mul (h.sub k)).add k
  unfold fsE
  rw [(h.add k).bytes, (h.sub k).bytes, (h.mul k).bytes, h.neg.bytes, z.bytes, (z.mul z).bytes]
  rfl

end Go.Bx
