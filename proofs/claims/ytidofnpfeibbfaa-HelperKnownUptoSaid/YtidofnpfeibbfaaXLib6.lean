import Derived.Test.YtidofnpfeibbfaaXLib5
set_option linter.unusedVariables false
set_option linter.unusedSimpArgs false
set_option linter.unnecessarySimpa false
namespace Go.Abs
theorem strCells_zeros (n : Nat) : strCells (zerosB n) = (List.replicate n (0 : Int)).map (.int .u8) := by
  unfold strCells zerosB
  simp
theorem lenOf_zeros {β : Type} (n : Nat) (K : Nat → Option β) : lenOf false (.str (zerosB n)) K = K n := by
  unfold lenOf
  simp only [fN_eq]
  congr 1
  simp [zerosB, ByteArray.size]
theorem firstOf_zeros {β : Type} (M : Mem) (n : Nat) (K : List AVal → Option β) : firstOf 1 M (.str (zerosB n)) n K = K ((List.replicate n (0 : Int)).map (.int .u8)) := by
  show (bif Nat.beq 1 1 then K (List.take n (strCells (zerosB n))) else none) = _
  rw [strCells_zeros]
  simp
section
variable {β : Type} {M : Mem} {a : Option (Nat × Nat)} {l n o : Nat} {xs : List AVal} {K : Option (Nat × Nat) → Nat → Cap → Mem → Option β}
theorem appZ_none {c : Nat} (h : l ≤ c) : appK false 1 1 M a l (.known c) (.str (zerosB 0)) K = K a l (.known c) M := by
  unfold appK
  simp only [lenOf_zeros, Nat.add_zero, ble_iff.2 h, cond_true, Nat.beq_refl]
theorem appZ_more {c : Nat} (hx : M.raws 1 a l (.known c) = some xs) (hn : c < l + n) (hb : l + n ≤ 2 ^ 47) :
    appK false 1 1 M a l (.known c) (.str (zerosB n)) K = K (some (M.n, 0)) (l + n) (.unk 0) (M.alloc ⟨xs ++ (List.replicate n (0 : Int)).map (.int .u8), .grow 1⟩) := by
  unfold appK
  simp only [lenOf_zeros, ble_false (Nat.not_le.2 hn), cond_false, Nat.mul_one, ble_iff.2 hb, cond_true, firstOf_raws hx, firstOf_zeros]
theorem appZ_grow (hg : M.get o = some ⟨xs, .grow 1⟩) (hl : xs.length = l) (h0 : 0 < n) (hb : l + n ≤ 2 ^ 47) :
    appK false 1 1 M (some (o, 0)) l (.unk 0) (.str (zerosB n)) K = K (some (M.n, 0)) (l + n) (.unk 0) ((M.put o ⟨[], .dead⟩).alloc ⟨xs ++ (List.replicate n (0 : Int)).map (.int .u8), .grow 1⟩) := by
  unfold appK
  have e1 : Nat.ble (0 + (l + n) * 1) xs.length = false := ble_false (by omega)
  have e2 : Nat.ble (0 + l * 1) xs.length = true := ble_iff.2 (by omega)
  have e3 : Nat.beq (0 + l * 1) xs.length = true := by rw [hl]; simp
  simp only [lenOf_zeros, hg, Option.bind_some, AObj.live, e1, e2, e3, Nat.zero_mul, Nat.beq_refl, Bool.and_self, cond_true, cond_false, beq_false (Nat.ne_of_gt h0), ble_iff.2 (show (l + n) * 1 ≤ 2 ^ 47 by omega), firstOf_zeros, List.drop_zero]
theorem appZ_grow0 (hg : M.get o = some ⟨xs, .grow 1⟩) (hl : xs.length = l) :
    appK false 1 1 M (some (o, 0)) l (.unk 0) (.str (zerosB 0)) K = K (some (o, 0)) l (.unk 0) M := by
  unfold appK
  have e2 : Nat.ble (0 + l * 1) xs.length = true := ble_iff.2 (by omega)
  simp only [lenOf_zeros, hg, Option.bind_some, AObj.live, e2, Nat.zero_mul, Nat.beq_refl, Bool.and_self, cond_true]
end
end Go.Abs
