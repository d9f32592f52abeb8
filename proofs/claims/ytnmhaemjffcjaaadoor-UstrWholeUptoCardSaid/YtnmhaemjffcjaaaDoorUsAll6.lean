/- Contracts of the program's functions, and the plain law behind them. No condition beyond those in each statement. -/
import Derived.Test.YtnmhaemjffcjaaaDoorUsAll5
import Derived.Test.YtnmhaemjffcjaaaDoorEvAll4
import Derived.Lib.Strings
import Derived.Shelf.Strings.Search3
set_option linter.unusedSimpArgs false
set_option linter.unusedVariables false
set_option linter.unusedSectionVars false
/- Texts: capitals and small letters. -/
set_option maxRecDepth 100000
namespace Go.Proofs.Us
open Go Go.Ev

def loU (u : Int) : List Int := ub (bif (decide (u ≥ 65) && decide (u ≤ 90)) || (decide (u ≥ 192) && (decide (u ≤ 222) && (u != 215))) then u + 32 else u)
def upU (u : Int) : List Int := bif (decide (u ≥ 97) && decide (u ≤ 122)) || (decide (u ≥ 224) && (decide (u ≤ 254) && (u != 247))) then ub ((u - 32) % 65536) else
  bif u == 181 then ub 924 else bif u == 255 then ub 376 else bif u == 223 then ub 83 ++ ub 83 else ub u
def rupU (u : Int) : List Int := bif (decide (u ≥ 97) && decide (u ≤ 122)) || (decide (u ≥ 224) && (decide (u ≤ 254) && (u != 247))) then ub ((u - 32) % 65536) else
  bif u == 181 then ub 924 else bif u == 223 then ub 83 ++ ub 83 else bif u == 255 then ub 376 else ub u
theorem rupU_eq (u : Int) : rupU u = upU u := by
  unfold rupU upU
  by_cases h1 : u = 223
  · subst h1; rfl
  · by_cases h2 : u = 255
    · subst h2; rfl
    · rw [show (u == 223) = false from by simp [h1], show (u == 255) = false from by simp [h2]]; rfl

theorem lower_step (s : ByteArray) (i : Nat) (r : List Int) (n0 : Nat) (hi : i < ul s) (hs : SM s) (hr : r.length ≤ 4 * i) : ∃ n1, n1 ≤ (r ++ loU (un s i)).length ∧ To Tryd.prog (loopAt Tryd.f42 0) (lowerS0 s i r n0) .normal (lowerS0 s ((i + 1 : Nat) : Int) (r ++ loU (un s i)) n1) := by
  have hz := hs.sz
  have hd : decide ((i : Int) < (↑(ul s) : Int)) = true := by simpa using hi
  have hu : ul s ≤ s.size := by unfold ul; omega
  unfold SM at hs
  have hx : (0 : Int) ≤ i ∧ (i : Int) < (↑(ul s) : Int) := ⟨by omega, by omega⟩
  have hin : inR IntKind.i64 ((i : Int) + (1 : Int)) := by simp only [inR]; omega
  have hl : r.length < lim := by unfold lim; omega
  have hl2 : r.length + (ub 83).length < lim := by show r.length + 2 < lim; unfold lim; omega
  have hb := un_lt s i
  rcases Bool.eq_false_or_eq_true (decide (un s i ≥ (65 : Int))) with b1 | b1
  · have a1 := b1; simp only [ge_iff_le, decide_eq_true_eq, decide_eq_false_iff_not, bne_iff_ne, ne_eq, bne_eq_false_iff_eq, beq_iff_eq, beq_eq_false_iff_ne] at a1
    rcases Bool.eq_false_or_eq_true (decide (un s i ≤ (90 : Int))) with b2 | b2
    · have a2 := b2; simp only [ge_iff_le, decide_eq_true_eq, decide_eq_false_iff_not, bne_iff_ne, ne_eq, bne_eq_false_iff_eq, beq_iff_eq, beq_eq_false_iff_ne] at a2
      have t := lowerL0_1 s i r n0 ⟨hd, hz, hx, b1, b2, (by (try simp only [inR, Int.toNat_natCast]); omega), rfl, rfl, rfl, (by (try simp only [Int.toNat_natCast]); omega), hl, hin, trivial⟩
      have e : loU (un s i) = ub (un s i + (32 : Int)) := by simp only [loU, b1, b2, Bool.true_and, Bool.and_true, Bool.false_and, Bool.and_false, Bool.or_true, Bool.true_or, Bool.or_false, Bool.false_or, Bool.or_self, Bool.and_self, cond_true, cond_false]
      try simp only [Int.toNat_natCast] at t
      rw [show r.length + 2 = (r ++ ub (un s i + (32 : Int))).length from by rw [List.length_append]; rfl] at t
      rw [e]; exact ⟨_, Nat.le_refl _, t⟩
    · have a2 := b2; simp only [ge_iff_le, decide_eq_true_eq, decide_eq_false_iff_not, bne_iff_ne, ne_eq, bne_eq_false_iff_eq, beq_iff_eq, beq_eq_false_iff_ne] at a2
      rcases Bool.eq_false_or_eq_true (decide (un s i ≥ (192 : Int))) with b3 | b3
      · have a3 := b3; simp only [ge_iff_le, decide_eq_true_eq, decide_eq_false_iff_not, bne_iff_ne, ne_eq, bne_eq_false_iff_eq, beq_iff_eq, beq_eq_false_iff_ne] at a3
        rcases Bool.eq_false_or_eq_true (decide (un s i ≤ (222 : Int))) with b4 | b4
        · have a4 := b4; simp only [ge_iff_le, decide_eq_true_eq, decide_eq_false_iff_not, bne_iff_ne, ne_eq, bne_eq_false_iff_eq, beq_iff_eq, beq_eq_false_iff_ne] at a4
          rcases Bool.eq_false_or_eq_true ((un s i != (215 : Int))) with b5 | b5
          · have a5 := b5; simp only [ge_iff_le, decide_eq_true_eq, decide_eq_false_iff_not, bne_iff_ne, ne_eq, bne_eq_false_iff_eq, beq_iff_eq, beq_eq_false_iff_ne] at a5
            have t := lowerL0_2 s i r n0 ⟨hd, hz, hx, b1, b2, b3, b4, b5, (by (try simp only [inR, Int.toNat_natCast]); omega), rfl, rfl, rfl, (by (try simp only [Int.toNat_natCast]); omega), hl, hin, trivial⟩
            have e : loU (un s i) = ub (un s i + (32 : Int)) := by simp only [loU, b1, b2, b3, b4, b5, Bool.true_and, Bool.and_true, Bool.false_and, Bool.and_false, Bool.or_true, Bool.true_or, Bool.or_false, Bool.false_or, Bool.or_self, Bool.and_self, cond_true, cond_false]
            try simp only [Int.toNat_natCast] at t
            rw [show r.length + 2 = (r ++ ub (un s i + (32 : Int))).length from by rw [List.length_append]; rfl] at t
            rw [e]; exact ⟨_, Nat.le_refl _, t⟩
          · have a5 := b5; simp only [ge_iff_le, decide_eq_true_eq, decide_eq_false_iff_not, bne_iff_ne, ne_eq, bne_eq_false_iff_eq, beq_iff_eq, beq_eq_false_iff_ne] at a5
            have t := lowerL0_3 s i r n0 ⟨hd, hz, hx, b1, b2, b3, b4, b5, rfl, rfl, rfl, (by (try simp only [Int.toNat_natCast]); omega), hl, hin, trivial⟩
            have e : loU (un s i) = ub (un s i) := by simp only [loU, b1, b2, b3, b4, b5, Bool.true_and, Bool.and_true, Bool.false_and, Bool.and_false, Bool.or_true, Bool.true_or, Bool.or_false, Bool.false_or, Bool.or_self, Bool.and_self, cond_true, cond_false]
            try simp only [Int.toNat_natCast] at t
            rw [show r.length + 2 = (r ++ ub (un s i)).length from by rw [List.length_append]; rfl] at t
            rw [e]; exact ⟨_, Nat.le_refl _, t⟩
        · have a4 := b4; simp only [ge_iff_le, decide_eq_true_eq, decide_eq_false_iff_not, bne_iff_ne, ne_eq, bne_eq_false_iff_eq, beq_iff_eq, beq_eq_false_iff_ne] at a4
          have t := lowerL0_4 s i r n0 ⟨hd, hz, hx, b1, b2, b3, b4, rfl, rfl, rfl, (by (try simp only [Int.toNat_natCast]); omega), hl, hin, trivial⟩
          have e : loU (un s i) = ub (un s i) := by simp only [loU, b1, b2, b3, b4, Bool.true_and, Bool.and_true, Bool.false_and, Bool.and_false, Bool.or_true, Bool.true_or, Bool.or_false, Bool.false_or, Bool.or_self, Bool.and_self, cond_true, cond_false]
          try simp only [Int.toNat_natCast] at t
          rw [show r.length + 2 = (r ++ ub (un s i)).length from by rw [List.length_append]; rfl] at t
          rw [e]; exact ⟨_, Nat.le_refl _, t⟩
      · have a3 := b3; simp only [ge_iff_le, decide_eq_true_eq, decide_eq_false_iff_not, bne_iff_ne, ne_eq, bne_eq_false_iff_eq, beq_iff_eq, beq_eq_false_iff_ne] at a3
        have t := lowerL0_5 s i r n0 ⟨hd, hz, hx, b1, b2, b3, rfl, rfl, rfl, (by (try simp only [Int.toNat_natCast]); omega), hl, hin, trivial⟩
        have e : loU (un s i) = ub (un s i) := by simp only [loU, b1, b2, b3, Bool.true_and, Bool.and_true, Bool.false_and, Bool.and_false, Bool.or_true, Bool.true_or, Bool.or_false, Bool.false_or, Bool.or_self, Bool.and_self, cond_true, cond_false]
        try simp only [Int.toNat_natCast] at t
        rw [show r.length + 2 = (r ++ ub (un s i)).length from by rw [List.length_append]; rfl] at t
        rw [e]; exact ⟨_, Nat.le_refl _, t⟩
  · have a1 := b1; simp only [ge_iff_le, decide_eq_true_eq, decide_eq_false_iff_not, bne_iff_ne, ne_eq, bne_eq_false_iff_eq, beq_iff_eq, beq_eq_false_iff_ne] at a1
    rcases Bool.eq_false_or_eq_true (decide (un s i ≥ (192 : Int))) with b6 | b6
    · have a6 := b6; simp only [ge_iff_le, decide_eq_true_eq, decide_eq_false_iff_not, bne_iff_ne, ne_eq, bne_eq_false_iff_eq, beq_iff_eq, beq_eq_false_iff_ne] at a6
      rcases Bool.eq_false_or_eq_true (decide (un s i ≤ (222 : Int))) with b7 | b7
      · have a7 := b7; simp only [ge_iff_le, decide_eq_true_eq, decide_eq_false_iff_not, bne_iff_ne, ne_eq, bne_eq_false_iff_eq, beq_iff_eq, beq_eq_false_iff_ne] at a7
        rcases Bool.eq_false_or_eq_true ((un s i != (215 : Int))) with b8 | b8
        · have a8 := b8; simp only [ge_iff_le, decide_eq_true_eq, decide_eq_false_iff_not, bne_iff_ne, ne_eq, bne_eq_false_iff_eq, beq_iff_eq, beq_eq_false_iff_ne] at a8
          have t := lowerL0_6 s i r n0 ⟨hd, hz, hx, b1, b6, b7, b8, (by (try simp only [inR, Int.toNat_natCast]); omega), rfl, rfl, rfl, (by (try simp only [Int.toNat_natCast]); omega), hl, hin, trivial⟩
          have e : loU (un s i) = ub (un s i + (32 : Int)) := by simp only [loU, b1, b6, b7, b8, Bool.true_and, Bool.and_true, Bool.false_and, Bool.and_false, Bool.or_true, Bool.true_or, Bool.or_false, Bool.false_or, Bool.or_self, Bool.and_self, cond_true, cond_false]
          try simp only [Int.toNat_natCast] at t
          rw [show r.length + 2 = (r ++ ub (un s i + (32 : Int))).length from by rw [List.length_append]; rfl] at t
          rw [e]; exact ⟨_, Nat.le_refl _, t⟩
        · have a8 := b8; simp only [ge_iff_le, decide_eq_true_eq, decide_eq_false_iff_not, bne_iff_ne, ne_eq, bne_eq_false_iff_eq, beq_iff_eq, beq_eq_false_iff_ne] at a8
          have t := lowerL0_7 s i r n0 ⟨hd, hz, hx, b1, b6, b7, b8, rfl, rfl, rfl, (by (try simp only [Int.toNat_natCast]); omega), hl, hin, trivial⟩
          have e : loU (un s i) = ub (un s i) := by simp only [loU, b1, b6, b7, b8, Bool.true_and, Bool.and_true, Bool.false_and, Bool.and_false, Bool.or_true, Bool.true_or, Bool.or_false, Bool.false_or, Bool.or_self, Bool.and_self, cond_true, cond_false]
          try simp only [Int.toNat_natCast] at t
          rw [show r.length + 2 = (r ++ ub (un s i)).length from by rw [List.length_append]; rfl] at t
          rw [e]; exact ⟨_, Nat.le_refl _, t⟩
      · have a7 := b7; simp only [ge_iff_le, decide_eq_true_eq, decide_eq_false_iff_not, bne_iff_ne, ne_eq, bne_eq_false_iff_eq, beq_iff_eq, beq_eq_false_iff_ne] at a7
        have t := lowerL0_8 s i r n0 ⟨hd, hz, hx, b1, b6, b7, rfl, rfl, rfl, (by (try simp only [Int.toNat_natCast]); omega), hl, hin, trivial⟩
        have e : loU (un s i) = ub (un s i) := by simp only [loU, b1, b6, b7, Bool.true_and, Bool.and_true, Bool.false_and, Bool.and_false, Bool.or_true, Bool.true_or, Bool.or_false, Bool.false_or, Bool.or_self, Bool.and_self, cond_true, cond_false]
        try simp only [Int.toNat_natCast] at t
        rw [show r.length + 2 = (r ++ ub (un s i)).length from by rw [List.length_append]; rfl] at t
        rw [e]; exact ⟨_, Nat.le_refl _, t⟩
    · have a6 := b6; simp only [ge_iff_le, decide_eq_true_eq, decide_eq_false_iff_not, bne_iff_ne, ne_eq, bne_eq_false_iff_eq, beq_iff_eq, beq_eq_false_iff_ne] at a6
      have t := lowerL0_9 s i r n0 ⟨hd, hz, hx, b1, b6, rfl, rfl, rfl, (by (try simp only [Int.toNat_natCast]); omega), hl, hin, trivial⟩
      have e : loU (un s i) = ub (un s i) := by simp only [loU, b1, b6, Bool.true_and, Bool.and_true, Bool.false_and, Bool.and_false, Bool.or_true, Bool.true_or, Bool.or_false, Bool.false_or, Bool.or_self, Bool.and_self, cond_true, cond_false]
      try simp only [Int.toNat_natCast] at t
      rw [show r.length + 2 = (r ++ ub (un s i)).length from by rw [List.length_append]; rfl] at t
      rw [e]; exact ⟨_, Nat.le_refl _, t⟩

theorem rlower_step (s : ByteArray) (i : Nat) (r : List Int) (n0 : Nat) (hi : i < ul s) (hs : SM s) (hr : r.length ≤ 4 * i) : ∃ n1, n1 ≤ (r ++ loU (un s i)).length ∧ To Tryd.prog (loopAt Tryd.f43 0) (rlowerS0 s i r n0) .normal (rlowerS0 s ((i + 1 : Nat) : Int) (r ++ loU (un s i)) n1) := by
  have hz := hs.sz
  have hd : decide ((i : Int) < (↑(ul s) : Int)) = true := by simpa using hi
  have hu : ul s ≤ s.size := by unfold ul; omega
  unfold SM at hs
  have hx : (0 : Int) ≤ i ∧ (i : Int) < (↑(ul s) : Int) := ⟨by omega, by omega⟩
  have hin : inR IntKind.i64 ((i : Int) + (1 : Int)) := by simp only [inR]; omega
  have hl : r.length < lim := by unfold lim; omega
  have hl2 : r.length + (ub 83).length < lim := by show r.length + 2 < lim; unfold lim; omega
  have hb := un_lt s i
  rcases Bool.eq_false_or_eq_true (decide (un s i ≥ (65 : Int))) with b1 | b1
  · have a1 := b1; simp only [ge_iff_le, decide_eq_true_eq, decide_eq_false_iff_not, bne_iff_ne, ne_eq, bne_eq_false_iff_eq, beq_iff_eq, beq_eq_false_iff_ne] at a1
    rcases Bool.eq_false_or_eq_true (decide (un s i ≤ (90 : Int))) with b2 | b2
    · have a2 := b2; simp only [ge_iff_le, decide_eq_true_eq, decide_eq_false_iff_not, bne_iff_ne, ne_eq, bne_eq_false_iff_eq, beq_iff_eq, beq_eq_false_iff_ne] at a2
      have t := rlowerL0_1 s i r n0 ⟨hz, hd, hz, hx, b1, b2, (by (try simp only [inR, Int.toNat_natCast]); omega), rfl, rfl, rfl, (by (try simp only [Int.toNat_natCast]); omega), hl, hin, trivial⟩
      have e : loU (un s i) = ub (un s i + (32 : Int)) := by simp only [loU, b1, b2, Bool.true_and, Bool.and_true, Bool.false_and, Bool.and_false, Bool.or_true, Bool.true_or, Bool.or_false, Bool.false_or, Bool.or_self, Bool.and_self, cond_true, cond_false]
      try simp only [Int.toNat_natCast] at t
      rw [show r.length + 2 = (r ++ ub (un s i + (32 : Int))).length from by rw [List.length_append]; rfl] at t
      rw [e]; exact ⟨_, Nat.le_refl _, t⟩
    · have a2 := b2; simp only [ge_iff_le, decide_eq_true_eq, decide_eq_false_iff_not, bne_iff_ne, ne_eq, bne_eq_false_iff_eq, beq_iff_eq, beq_eq_false_iff_ne] at a2
      rcases Bool.eq_false_or_eq_true (decide (un s i ≥ (192 : Int))) with b3 | b3
      · have a3 := b3; simp only [ge_iff_le, decide_eq_true_eq, decide_eq_false_iff_not, bne_iff_ne, ne_eq, bne_eq_false_iff_eq, beq_iff_eq, beq_eq_false_iff_ne] at a3
        rcases Bool.eq_false_or_eq_true (decide (un s i ≤ (222 : Int))) with b4 | b4
        · have a4 := b4; simp only [ge_iff_le, decide_eq_true_eq, decide_eq_false_iff_not, bne_iff_ne, ne_eq, bne_eq_false_iff_eq, beq_iff_eq, beq_eq_false_iff_ne] at a4
          rcases Bool.eq_false_or_eq_true ((un s i != (215 : Int))) with b5 | b5
          · have a5 := b5; simp only [ge_iff_le, decide_eq_true_eq, decide_eq_false_iff_not, bne_iff_ne, ne_eq, bne_eq_false_iff_eq, beq_iff_eq, beq_eq_false_iff_ne] at a5
            have t := rlowerL0_2 s i r n0 ⟨hz, hd, hz, hx, b1, b2, b3, b4, b5, (by (try simp only [inR, Int.toNat_natCast]); omega), rfl, rfl, rfl, (by (try simp only [Int.toNat_natCast]); omega), hl, hin, trivial⟩
            have e : loU (un s i) = ub (un s i + (32 : Int)) := by simp only [loU, b1, b2, b3, b4, b5, Bool.true_and, Bool.and_true, Bool.false_and, Bool.and_false, Bool.or_true, Bool.true_or, Bool.or_false, Bool.false_or, Bool.or_self, Bool.and_self, cond_true, cond_false]
            try simp only [Int.toNat_natCast] at t
            rw [show r.length + 2 = (r ++ ub (un s i + (32 : Int))).length from by rw [List.length_append]; rfl] at t
            rw [e]; exact ⟨_, Nat.le_refl _, t⟩
          · have a5 := b5; simp only [ge_iff_le, decide_eq_true_eq, decide_eq_false_iff_not, bne_iff_ne, ne_eq, bne_eq_false_iff_eq, beq_iff_eq, beq_eq_false_iff_ne] at a5
            have t := rlowerL0_3 s i r n0 ⟨hz, hd, hz, hx, b1, b2, b3, b4, b5, rfl, rfl, rfl, (by (try simp only [Int.toNat_natCast]); omega), hl, hin, trivial⟩
            have e : loU (un s i) = ub (un s i) := by simp only [loU, b1, b2, b3, b4, b5, Bool.true_and, Bool.and_true, Bool.false_and, Bool.and_false, Bool.or_true, Bool.true_or, Bool.or_false, Bool.false_or, Bool.or_self, Bool.and_self, cond_true, cond_false]
            try simp only [Int.toNat_natCast] at t
            rw [show r.length + 2 = (r ++ ub (un s i)).length from by rw [List.length_append]; rfl] at t
            rw [e]; exact ⟨_, Nat.le_refl _, t⟩
        · have a4 := b4; simp only [ge_iff_le, decide_eq_true_eq, decide_eq_false_iff_not, bne_iff_ne, ne_eq, bne_eq_false_iff_eq, beq_iff_eq, beq_eq_false_iff_ne] at a4
          have t := rlowerL0_4 s i r n0 ⟨hz, hd, hz, hx, b1, b2, b3, b4, rfl, rfl, rfl, (by (try simp only [Int.toNat_natCast]); omega), hl, hin, trivial⟩
          have e : loU (un s i) = ub (un s i) := by simp only [loU, b1, b2, b3, b4, Bool.true_and, Bool.and_true, Bool.false_and, Bool.and_false, Bool.or_true, Bool.true_or, Bool.or_false, Bool.false_or, Bool.or_self, Bool.and_self, cond_true, cond_false]
          try simp only [Int.toNat_natCast] at t
          rw [show r.length + 2 = (r ++ ub (un s i)).length from by rw [List.length_append]; rfl] at t
          rw [e]; exact ⟨_, Nat.le_refl _, t⟩
      · have a3 := b3; simp only [ge_iff_le, decide_eq_true_eq, decide_eq_false_iff_not, bne_iff_ne, ne_eq, bne_eq_false_iff_eq, beq_iff_eq, beq_eq_false_iff_ne] at a3
        have t := rlowerL0_5 s i r n0 ⟨hz, hd, hz, hx, b1, b2, b3, rfl, rfl, rfl, (by (try simp only [Int.toNat_natCast]); omega), hl, hin, trivial⟩
        have e : loU (un s i) = ub (un s i) := by simp only [loU, b1, b2, b3, Bool.true_and, Bool.and_true, Bool.false_and, Bool.and_false, Bool.or_true, Bool.true_or, Bool.or_false, Bool.false_or, Bool.or_self, Bool.and_self, cond_true, cond_false]
        try simp only [Int.toNat_natCast] at t
        rw [show r.length + 2 = (r ++ ub (un s i)).length from by rw [List.length_append]; rfl] at t
        rw [e]; exact ⟨_, Nat.le_refl _, t⟩
  · have a1 := b1; simp only [ge_iff_le, decide_eq_true_eq, decide_eq_false_iff_not, bne_iff_ne, ne_eq, bne_eq_false_iff_eq, beq_iff_eq, beq_eq_false_iff_ne] at a1
    rcases Bool.eq_false_or_eq_true (decide (un s i ≥ (192 : Int))) with b6 | b6
    · have a6 := b6; simp only [ge_iff_le, decide_eq_true_eq, decide_eq_false_iff_not, bne_iff_ne, ne_eq, bne_eq_false_iff_eq, beq_iff_eq, beq_eq_false_iff_ne] at a6
      rcases Bool.eq_false_or_eq_true (decide (un s i ≤ (222 : Int))) with b7 | b7
      · have a7 := b7; simp only [ge_iff_le, decide_eq_true_eq, decide_eq_false_iff_not, bne_iff_ne, ne_eq, bne_eq_false_iff_eq, beq_iff_eq, beq_eq_false_iff_ne] at a7
        rcases Bool.eq_false_or_eq_true ((un s i != (215 : Int))) with b8 | b8
        · have a8 := b8; simp only [ge_iff_le, decide_eq_true_eq, decide_eq_false_iff_not, bne_iff_ne, ne_eq, bne_eq_false_iff_eq, beq_iff_eq, beq_eq_false_iff_ne] at a8
          have t := rlowerL0_6 s i r n0 ⟨hz, hd, hz, hx, b1, b6, b7, b8, (by (try simp only [inR, Int.toNat_natCast]); omega), rfl, rfl, rfl, (by (try simp only [Int.toNat_natCast]); omega), hl, hin, trivial⟩
          have e : loU (un s i) = ub (un s i + (32 : Int)) := by simp only [loU, b1, b6, b7, b8, Bool.true_and, Bool.and_true, Bool.false_and, Bool.and_false, Bool.or_true, Bool.true_or, Bool.or_false, Bool.false_or, Bool.or_self, Bool.and_self, cond_true, cond_false]
          try simp only [Int.toNat_natCast] at t
          rw [show r.length + 2 = (r ++ ub (un s i + (32 : Int))).length from by rw [List.length_append]; rfl] at t
          rw [e]; exact ⟨_, Nat.le_refl _, t⟩
        · have a8 := b8; simp only [ge_iff_le, decide_eq_true_eq, decide_eq_false_iff_not, bne_iff_ne, ne_eq, bne_eq_false_iff_eq, beq_iff_eq, beq_eq_false_iff_ne] at a8
          have t := rlowerL0_7 s i r n0 ⟨hz, hd, hz, hx, b1, b6, b7, b8, rfl, rfl, rfl, (by (try simp only [Int.toNat_natCast]); omega), hl, hin, trivial⟩
          have e : loU (un s i) = ub (un s i) := by simp only [loU, b1, b6, b7, b8, Bool.true_and, Bool.and_true, Bool.false_and, Bool.and_false, Bool.or_true, Bool.true_or, Bool.or_false, Bool.false_or, Bool.or_self, Bool.and_self, cond_true, cond_false]
          try simp only [Int.toNat_natCast] at t
          rw [show r.length + 2 = (r ++ ub (un s i)).length from by rw [List.length_append]; rfl] at t
          rw [e]; exact ⟨_, Nat.le_refl _, t⟩
      · have a7 := b7; simp only [ge_iff_le, decide_eq_true_eq, decide_eq_false_iff_not, bne_iff_ne, ne_eq, bne_eq_false_iff_eq, beq_iff_eq, beq_eq_false_iff_ne] at a7
        have t := rlowerL0_8 s i r n0 ⟨hz, hd, hz, hx, b1, b6, b7, rfl, rfl, rfl, (by (try simp only [Int.toNat_natCast]); omega), hl, hin, trivial⟩
        have e : loU (un s i) = ub (un s i) := by simp only [loU, b1, b6, b7, Bool.true_and, Bool.and_true, Bool.false_and, Bool.and_false, Bool.or_true, Bool.true_or, Bool.or_false, Bool.false_or, Bool.or_self, Bool.and_self, cond_true, cond_false]
        try simp only [Int.toNat_natCast] at t
        rw [show r.length + 2 = (r ++ ub (un s i)).length from by rw [List.length_append]; rfl] at t
        rw [e]; exact ⟨_, Nat.le_refl _, t⟩
    · have a6 := b6; simp only [ge_iff_le, decide_eq_true_eq, decide_eq_false_iff_not, bne_iff_ne, ne_eq, bne_eq_false_iff_eq, beq_iff_eq, beq_eq_false_iff_ne] at a6
      have t := rlowerL0_9 s i r n0 ⟨hz, hd, hz, hx, b1, b6, rfl, rfl, rfl, (by (try simp only [Int.toNat_natCast]); omega), hl, hin, trivial⟩
      have e : loU (un s i) = ub (un s i) := by simp only [loU, b1, b6, Bool.true_and, Bool.and_true, Bool.false_and, Bool.and_false, Bool.or_true, Bool.true_or, Bool.or_false, Bool.false_or, Bool.or_self, Bool.and_self, cond_true, cond_false]
      try simp only [Int.toNat_natCast] at t
      rw [show r.length + 2 = (r ++ ub (un s i)).length from by rw [List.length_append]; rfl] at t
      rw [e]; exact ⟨_, Nat.le_refl _, t⟩

theorem upper_step (s : ByteArray) (i : Nat) (r : List Int) (n0 : Nat) (hi : i < ul s) (hs : SM s) (hr : r.length ≤ 4 * i) : ∃ n1, n1 ≤ (r ++ upU (un s i)).length ∧ To Tryd.prog (loopAt Tryd.f40 0) (upperS0 s i r n0) .normal (upperS0 s ((i + 1 : Nat) : Int) (r ++ upU (un s i)) n1) := by
  have hz := hs.sz
  have hd : decide ((i : Int) < (↑(ul s) : Int)) = true := by simpa using hi
  have hu : ul s ≤ s.size := by unfold ul; omega
  unfold SM at hs
  have hx : (0 : Int) ≤ i ∧ (i : Int) < (↑(ul s) : Int) := ⟨by omega, by omega⟩
  have hin : inR IntKind.i64 ((i : Int) + (1 : Int)) := by simp only [inR]; omega
  have hl : r.length < lim := by unfold lim; omega
  have hl2 : r.length + (ub 83).length < lim := by show r.length + 2 < lim; unfold lim; omega
  have hb := un_lt s i
  rcases Bool.eq_false_or_eq_true (decide (un s i ≥ (97 : Int))) with b1 | b1
  · have a1 := b1; simp only [ge_iff_le, decide_eq_true_eq, decide_eq_false_iff_not, bne_iff_ne, ne_eq, bne_eq_false_iff_eq, beq_iff_eq, beq_eq_false_iff_ne] at a1
    rcases Bool.eq_false_or_eq_true (decide (un s i ≤ (122 : Int))) with b2 | b2
    · have a2 := b2; simp only [ge_iff_le, decide_eq_true_eq, decide_eq_false_iff_not, bne_iff_ne, ne_eq, bne_eq_false_iff_eq, beq_iff_eq, beq_eq_false_iff_ne] at a2
      have t := upperL0_1 s i r n0 ⟨hd, hz, hx, b1, b2, rfl, rfl, rfl, (by (try simp only [Int.toNat_natCast]); omega), hl, hin, trivial⟩
      have e : upU (un s i) = ub ((un s i - (32 : Int)) % (65536 : Int)) := by simp only [upU, b1, b2, Bool.true_and, Bool.and_true, Bool.false_and, Bool.and_false, Bool.or_true, Bool.true_or, Bool.or_false, Bool.false_or, Bool.or_self, Bool.and_self, cond_true, cond_false]
      try simp only [Int.toNat_natCast] at t
      rw [show r.length + 2 = (r ++ ub ((un s i - (32 : Int)) % (65536 : Int))).length from by rw [List.length_append]; rfl] at t
      rw [e]; exact ⟨_, Nat.le_refl _, t⟩
    · have a2 := b2; simp only [ge_iff_le, decide_eq_true_eq, decide_eq_false_iff_not, bne_iff_ne, ne_eq, bne_eq_false_iff_eq, beq_iff_eq, beq_eq_false_iff_ne] at a2
      rcases Bool.eq_false_or_eq_true (decide (un s i ≥ (224 : Int))) with b3 | b3
      · have a3 := b3; simp only [ge_iff_le, decide_eq_true_eq, decide_eq_false_iff_not, bne_iff_ne, ne_eq, bne_eq_false_iff_eq, beq_iff_eq, beq_eq_false_iff_ne] at a3
        rcases Bool.eq_false_or_eq_true (decide (un s i ≤ (254 : Int))) with b4 | b4
        · have a4 := b4; simp only [ge_iff_le, decide_eq_true_eq, decide_eq_false_iff_not, bne_iff_ne, ne_eq, bne_eq_false_iff_eq, beq_iff_eq, beq_eq_false_iff_ne] at a4
          rcases Bool.eq_false_or_eq_true ((un s i != (247 : Int))) with b5 | b5
          · have a5 := b5; simp only [ge_iff_le, decide_eq_true_eq, decide_eq_false_iff_not, bne_iff_ne, ne_eq, bne_eq_false_iff_eq, beq_iff_eq, beq_eq_false_iff_ne] at a5
            have t := upperL0_2 s i r n0 ⟨hd, hz, hx, b1, b2, b3, b4, b5, rfl, rfl, rfl, (by (try simp only [Int.toNat_natCast]); omega), hl, hin, trivial⟩
            have e : upU (un s i) = ub ((un s i - (32 : Int)) % (65536 : Int)) := by simp only [upU, b1, b2, b3, b4, b5, Bool.true_and, Bool.and_true, Bool.false_and, Bool.and_false, Bool.or_true, Bool.true_or, Bool.or_false, Bool.false_or, Bool.or_self, Bool.and_self, cond_true, cond_false]
            try simp only [Int.toNat_natCast] at t
            rw [show r.length + 2 = (r ++ ub ((un s i - (32 : Int)) % (65536 : Int))).length from by rw [List.length_append]; rfl] at t
            rw [e]; exact ⟨_, Nat.le_refl _, t⟩
          · have a5 := b5; simp only [ge_iff_le, decide_eq_true_eq, decide_eq_false_iff_not, bne_iff_ne, ne_eq, bne_eq_false_iff_eq, beq_iff_eq, beq_eq_false_iff_ne] at a5
            rcases Bool.eq_false_or_eq_true ((un s i == (181 : Int))) with b6 | b6
            · have a6 := b6; simp only [ge_iff_le, decide_eq_true_eq, decide_eq_false_iff_not, bne_iff_ne, ne_eq, bne_eq_false_iff_eq, beq_iff_eq, beq_eq_false_iff_ne] at a6
              have t := upperL0_3 s i r n0 ⟨hd, hz, hx, b1, b2, b3, b4, b5, b6, rfl, rfl, rfl, (by (try simp only [Int.toNat_natCast]); omega), hl, hin, trivial⟩
              have e : upU (un s i) = ub (924 : Int) := by simp only [upU, b1, b2, b3, b4, b5, b6, Bool.true_and, Bool.and_true, Bool.false_and, Bool.and_false, Bool.or_true, Bool.true_or, Bool.or_false, Bool.false_or, Bool.or_self, Bool.and_self, cond_true, cond_false]
              try simp only [Int.toNat_natCast] at t
              rw [show r.length + 2 = (r ++ ub (924 : Int)).length from by rw [List.length_append]; rfl] at t
              rw [e]; exact ⟨_, Nat.le_refl _, t⟩
            · have a6 := b6; simp only [ge_iff_le, decide_eq_true_eq, decide_eq_false_iff_not, bne_iff_ne, ne_eq, bne_eq_false_iff_eq, beq_iff_eq, beq_eq_false_iff_ne] at a6
              rcases Bool.eq_false_or_eq_true ((un s i == (255 : Int))) with b7 | b7
              · have a7 := b7; simp only [ge_iff_le, decide_eq_true_eq, decide_eq_false_iff_not, bne_iff_ne, ne_eq, bne_eq_false_iff_eq, beq_iff_eq, beq_eq_false_iff_ne] at a7
                have t := upperL0_4 s i r n0 ⟨hd, hz, hx, b1, b2, b3, b4, b5, b6, b7, rfl, rfl, rfl, (by (try simp only [Int.toNat_natCast]); omega), hl, hin, trivial⟩
                have e : upU (un s i) = ub (376 : Int) := by simp only [upU, b1, b2, b3, b4, b5, b6, b7, Bool.true_and, Bool.and_true, Bool.false_and, Bool.and_false, Bool.or_true, Bool.true_or, Bool.or_false, Bool.false_or, Bool.or_self, Bool.and_self, cond_true, cond_false]
                try simp only [Int.toNat_natCast] at t
                rw [show r.length + 2 = (r ++ ub (376 : Int)).length from by rw [List.length_append]; rfl] at t
                rw [e]; exact ⟨_, Nat.le_refl _, t⟩
              · have a7 := b7; simp only [ge_iff_le, decide_eq_true_eq, decide_eq_false_iff_not, bne_iff_ne, ne_eq, bne_eq_false_iff_eq, beq_iff_eq, beq_eq_false_iff_ne] at a7
                rcases Bool.eq_false_or_eq_true ((un s i == (223 : Int))) with b8 | b8
                · have a8 := b8; simp only [ge_iff_le, decide_eq_true_eq, decide_eq_false_iff_not, bne_iff_ne, ne_eq, bne_eq_false_iff_eq, beq_iff_eq, beq_eq_false_iff_ne] at a8
                  have t := upperL0_5 s i r n0 ⟨hd, hz, hx, b1, b2, b3, b4, b5, b6, b7, b8, rfl, rfl, rfl, (by (try simp only [Int.toNat_natCast]); omega), hl, rfl, (by rw [List.length_append]; rfl), (by rw [List.length_append]; rfl), (by (try simp only [Int.toNat_natCast]); omega), (by rw [List.length_append]; exact hl2), hin, trivial⟩
                  have e : upU (un s i) = ub 83 ++ ub 83 := by simp only [upU, b1, b2, b3, b4, b5, b6, b7, b8, Bool.true_and, Bool.and_true, Bool.false_and, Bool.and_false, Bool.or_true, Bool.true_or, Bool.or_false, Bool.false_or, Bool.or_self, Bool.and_self, cond_true, cond_false]
                  try simp only [Int.toNat_natCast] at t
                  rw [List.append_assoc, show (r ++ ub 83).length + 2 = (r ++ (ub 83 ++ ub 83)).length from by simp only [List.length_append]; rfl] at t
                  rw [e]; exact ⟨_, Nat.le_refl _, t⟩
                · have a8 := b8; simp only [ge_iff_le, decide_eq_true_eq, decide_eq_false_iff_not, bne_iff_ne, ne_eq, bne_eq_false_iff_eq, beq_iff_eq, beq_eq_false_iff_ne] at a8
                  have t := upperL0_6 s i r n0 ⟨hd, hz, hx, b1, b2, b3, b4, b5, b6, b7, b8, rfl, rfl, rfl, (by (try simp only [Int.toNat_natCast]); omega), hl, hin, trivial⟩
                  have e : upU (un s i) = ub (un s i) := by simp only [upU, b1, b2, b3, b4, b5, b6, b7, b8, Bool.true_and, Bool.and_true, Bool.false_and, Bool.and_false, Bool.or_true, Bool.true_or, Bool.or_false, Bool.false_or, Bool.or_self, Bool.and_self, cond_true, cond_false]
                  try simp only [Int.toNat_natCast] at t
                  rw [show r.length + 2 = (r ++ ub (un s i)).length from by rw [List.length_append]; rfl] at t
                  rw [e]; exact ⟨_, Nat.le_refl _, t⟩
        · have a4 := b4; simp only [ge_iff_le, decide_eq_true_eq, decide_eq_false_iff_not, bne_iff_ne, ne_eq, bne_eq_false_iff_eq, beq_iff_eq, beq_eq_false_iff_ne] at a4
          rcases Bool.eq_false_or_eq_true ((un s i == (181 : Int))) with b9 | b9
          · have a9 := b9; simp only [ge_iff_le, decide_eq_true_eq, decide_eq_false_iff_not, bne_iff_ne, ne_eq, bne_eq_false_iff_eq, beq_iff_eq, beq_eq_false_iff_ne] at a9
            have t := upperL0_7 s i r n0 ⟨hd, hz, hx, b1, b2, b3, b4, b9, rfl, rfl, rfl, (by (try simp only [Int.toNat_natCast]); omega), hl, hin, trivial⟩
            have e : upU (un s i) = ub (924 : Int) := by simp only [upU, b1, b2, b3, b4, b9, Bool.true_and, Bool.and_true, Bool.false_and, Bool.and_false, Bool.or_true, Bool.true_or, Bool.or_false, Bool.false_or, Bool.or_self, Bool.and_self, cond_true, cond_false]
            try simp only [Int.toNat_natCast] at t
            rw [show r.length + 2 = (r ++ ub (924 : Int)).length from by rw [List.length_append]; rfl] at t
            rw [e]; exact ⟨_, Nat.le_refl _, t⟩
          · have a9 := b9; simp only [ge_iff_le, decide_eq_true_eq, decide_eq_false_iff_not, bne_iff_ne, ne_eq, bne_eq_false_iff_eq, beq_iff_eq, beq_eq_false_iff_ne] at a9
            rcases Bool.eq_false_or_eq_true ((un s i == (255 : Int))) with b10 | b10
            · have a10 := b10; simp only [ge_iff_le, decide_eq_true_eq, decide_eq_false_iff_not, bne_iff_ne, ne_eq, bne_eq_false_iff_eq, beq_iff_eq, beq_eq_false_iff_ne] at a10
              have t := upperL0_8 s i r n0 ⟨hd, hz, hx, b1, b2, b3, b4, b9, b10, rfl, rfl, rfl, (by (try simp only [Int.toNat_natCast]); omega), hl, hin, trivial⟩
              have e : upU (un s i) = ub (376 : Int) := by simp only [upU, b1, b2, b3, b4, b9, b10, Bool.true_and, Bool.and_true, Bool.false_and, Bool.and_false, Bool.or_true, Bool.true_or, Bool.or_false, Bool.false_or, Bool.or_self, Bool.and_self, cond_true, cond_false]
              try simp only [Int.toNat_natCast] at t
              rw [show r.length + 2 = (r ++ ub (376 : Int)).length from by rw [List.length_append]; rfl] at t
              rw [e]; exact ⟨_, Nat.le_refl _, t⟩
            · have a10 := b10; simp only [ge_iff_le, decide_eq_true_eq, decide_eq_false_iff_not, bne_iff_ne, ne_eq, bne_eq_false_iff_eq, beq_iff_eq, beq_eq_false_iff_ne] at a10
              rcases Bool.eq_false_or_eq_true ((un s i == (223 : Int))) with b11 | b11
              · have a11 := b11; simp only [ge_iff_le, decide_eq_true_eq, decide_eq_false_iff_not, bne_iff_ne, ne_eq, bne_eq_false_iff_eq, beq_iff_eq, beq_eq_false_iff_ne] at a11
                have t := upperL0_9 s i r n0 ⟨hd, hz, hx, b1, b2, b3, b4, b9, b10, b11, rfl, rfl, rfl, (by (try simp only [Int.toNat_natCast]); omega), hl, rfl, (by rw [List.length_append]; rfl), (by rw [List.length_append]; rfl), (by (try simp only [Int.toNat_natCast]); omega), (by rw [List.length_append]; exact hl2), hin, trivial⟩
                have e : upU (un s i) = ub 83 ++ ub 83 := by simp only [upU, b1, b2, b3, b4, b9, b10, b11, Bool.true_and, Bool.and_true, Bool.false_and, Bool.and_false, Bool.or_true, Bool.true_or, Bool.or_false, Bool.false_or, Bool.or_self, Bool.and_self, cond_true, cond_false]
                try simp only [Int.toNat_natCast] at t
                rw [List.append_assoc, show (r ++ ub 83).length + 2 = (r ++ (ub 83 ++ ub 83)).length from by simp only [List.length_append]; rfl] at t
                rw [e]; exact ⟨_, Nat.le_refl _, t⟩
              · have a11 := b11; simp only [ge_iff_le, decide_eq_true_eq, decide_eq_false_iff_not, bne_iff_ne, ne_eq, bne_eq_false_iff_eq, beq_iff_eq, beq_eq_false_iff_ne] at a11
                have t := upperL0_10 s i r n0 ⟨hd, hz, hx, b1, b2, b3, b4, b9, b10, b11, rfl, rfl, rfl, (by (try simp only [Int.toNat_natCast]); omega), hl, hin, trivial⟩
                have e : upU (un s i) = ub (un s i) := by simp only [upU, b1, b2, b3, b4, b9, b10, b11, Bool.true_and, Bool.and_true, Bool.false_and, Bool.and_false, Bool.or_true, Bool.true_or, Bool.or_false, Bool.false_or, Bool.or_self, Bool.and_self, cond_true, cond_false]
                try simp only [Int.toNat_natCast] at t
                rw [show r.length + 2 = (r ++ ub (un s i)).length from by rw [List.length_append]; rfl] at t
                rw [e]; exact ⟨_, Nat.le_refl _, t⟩
      · have a3 := b3; simp only [ge_iff_le, decide_eq_true_eq, decide_eq_false_iff_not, bne_iff_ne, ne_eq, bne_eq_false_iff_eq, beq_iff_eq, beq_eq_false_iff_ne] at a3
        rcases Bool.eq_false_or_eq_true ((un s i == (181 : Int))) with b12 | b12
        · have a12 := b12; simp only [ge_iff_le, decide_eq_true_eq, decide_eq_false_iff_not, bne_iff_ne, ne_eq, bne_eq_false_iff_eq, beq_iff_eq, beq_eq_false_iff_ne] at a12
          have t := upperL0_11 s i r n0 ⟨hd, hz, hx, b1, b2, b3, b12, rfl, rfl, rfl, (by (try simp only [Int.toNat_natCast]); omega), hl, hin, trivial⟩
          have e : upU (un s i) = ub (924 : Int) := by simp only [upU, b1, b2, b3, b12, Bool.true_and, Bool.and_true, Bool.false_and, Bool.and_false, Bool.or_true, Bool.true_or, Bool.or_false, Bool.false_or, Bool.or_self, Bool.and_self, cond_true, cond_false]
          try simp only [Int.toNat_natCast] at t
          rw [show r.length + 2 = (r ++ ub (924 : Int)).length from by rw [List.length_append]; rfl] at t
          rw [e]; exact ⟨_, Nat.le_refl _, t⟩
        · have a12 := b12; simp only [ge_iff_le, decide_eq_true_eq, decide_eq_false_iff_not, bne_iff_ne, ne_eq, bne_eq_false_iff_eq, beq_iff_eq, beq_eq_false_iff_ne] at a12
          rcases Bool.eq_false_or_eq_true ((un s i == (255 : Int))) with b13 | b13
          · have a13 := b13; simp only [ge_iff_le, decide_eq_true_eq, decide_eq_false_iff_not, bne_iff_ne, ne_eq, bne_eq_false_iff_eq, beq_iff_eq, beq_eq_false_iff_ne] at a13
            have t := upperL0_12 s i r n0 ⟨hd, hz, hx, b1, b2, b3, b12, b13, rfl, rfl, rfl, (by (try simp only [Int.toNat_natCast]); omega), hl, hin, trivial⟩
            have e : upU (un s i) = ub (376 : Int) := by simp only [upU, b1, b2, b3, b12, b13, Bool.true_and, Bool.and_true, Bool.false_and, Bool.and_false, Bool.or_true, Bool.true_or, Bool.or_false, Bool.false_or, Bool.or_self, Bool.and_self, cond_true, cond_false]
            try simp only [Int.toNat_natCast] at t
            rw [show r.length + 2 = (r ++ ub (376 : Int)).length from by rw [List.length_append]; rfl] at t
            rw [e]; exact ⟨_, Nat.le_refl _, t⟩
          · have a13 := b13; simp only [ge_iff_le, decide_eq_true_eq, decide_eq_false_iff_not, bne_iff_ne, ne_eq, bne_eq_false_iff_eq, beq_iff_eq, beq_eq_false_iff_ne] at a13
            rcases Bool.eq_false_or_eq_true ((un s i == (223 : Int))) with b14 | b14
            · have a14 := b14; simp only [ge_iff_le, decide_eq_true_eq, decide_eq_false_iff_not, bne_iff_ne, ne_eq, bne_eq_false_iff_eq, beq_iff_eq, beq_eq_false_iff_ne] at a14
              have t := upperL0_13 s i r n0 ⟨hd, hz, hx, b1, b2, b3, b12, b13, b14, rfl, rfl, rfl, (by (try simp only [Int.toNat_natCast]); omega), hl, rfl, (by rw [List.length_append]; rfl), (by rw [List.length_append]; rfl), (by (try simp only [Int.toNat_natCast]); omega), (by rw [List.length_append]; exact hl2), hin, trivial⟩
              have e : upU (un s i) = ub 83 ++ ub 83 := by simp only [upU, b1, b2, b3, b12, b13, b14, Bool.true_and, Bool.and_true, Bool.false_and, Bool.and_false, Bool.or_true, Bool.true_or, Bool.or_false, Bool.false_or, Bool.or_self, Bool.and_self, cond_true, cond_false]
              try simp only [Int.toNat_natCast] at t
              rw [List.append_assoc, show (r ++ ub 83).length + 2 = (r ++ (ub 83 ++ ub 83)).length from by simp only [List.length_append]; rfl] at t
              rw [e]; exact ⟨_, Nat.le_refl _, t⟩
            · have a14 := b14; simp only [ge_iff_le, decide_eq_true_eq, decide_eq_false_iff_not, bne_iff_ne, ne_eq, bne_eq_false_iff_eq, beq_iff_eq, beq_eq_false_iff_ne] at a14
              have t := upperL0_14 s i r n0 ⟨hd, hz, hx, b1, b2, b3, b12, b13, b14, rfl, rfl, rfl, (by (try simp only [Int.toNat_natCast]); omega), hl, hin, trivial⟩
              have e : upU (un s i) = ub (un s i) := by simp only [upU, b1, b2, b3, b12, b13, b14, Bool.true_and, Bool.and_true, Bool.false_and, Bool.and_false, Bool.or_true, Bool.true_or, Bool.or_false, Bool.false_or, Bool.or_self, Bool.and_self, cond_true, cond_false]
              try simp only [Int.toNat_natCast] at t
              rw [show r.length + 2 = (r ++ ub (un s i)).length from by rw [List.length_append]; rfl] at t
              rw [e]; exact ⟨_, Nat.le_refl _, t⟩
  · have a1 := b1; simp only [ge_iff_le, decide_eq_true_eq, decide_eq_false_iff_not, bne_iff_ne, ne_eq, bne_eq_false_iff_eq, beq_iff_eq, beq_eq_false_iff_ne] at a1
    rcases Bool.eq_false_or_eq_true (decide (un s i ≥ (224 : Int))) with b15 | b15
    · have a15 := b15; simp only [ge_iff_le, decide_eq_true_eq, decide_eq_false_iff_not, bne_iff_ne, ne_eq, bne_eq_false_iff_eq, beq_iff_eq, beq_eq_false_iff_ne] at a15
      rcases Bool.eq_false_or_eq_true (decide (un s i ≤ (254 : Int))) with b16 | b16
      · have a16 := b16; simp only [ge_iff_le, decide_eq_true_eq, decide_eq_false_iff_not, bne_iff_ne, ne_eq, bne_eq_false_iff_eq, beq_iff_eq, beq_eq_false_iff_ne] at a16
        rcases Bool.eq_false_or_eq_true ((un s i != (247 : Int))) with b17 | b17
        · have a17 := b17; simp only [ge_iff_le, decide_eq_true_eq, decide_eq_false_iff_not, bne_iff_ne, ne_eq, bne_eq_false_iff_eq, beq_iff_eq, beq_eq_false_iff_ne] at a17
          have t := upperL0_15 s i r n0 ⟨hd, hz, hx, b1, b15, b16, b17, rfl, rfl, rfl, (by (try simp only [Int.toNat_natCast]); omega), hl, hin, trivial⟩
          have e : upU (un s i) = ub ((un s i - (32 : Int)) % (65536 : Int)) := by simp only [upU, b1, b15, b16, b17, Bool.true_and, Bool.and_true, Bool.false_and, Bool.and_false, Bool.or_true, Bool.true_or, Bool.or_false, Bool.false_or, Bool.or_self, Bool.and_self, cond_true, cond_false]
          try simp only [Int.toNat_natCast] at t
          rw [show r.length + 2 = (r ++ ub ((un s i - (32 : Int)) % (65536 : Int))).length from by rw [List.length_append]; rfl] at t
          rw [e]; exact ⟨_, Nat.le_refl _, t⟩
        · have a17 := b17; simp only [ge_iff_le, decide_eq_true_eq, decide_eq_false_iff_not, bne_iff_ne, ne_eq, bne_eq_false_iff_eq, beq_iff_eq, beq_eq_false_iff_ne] at a17
          rcases Bool.eq_false_or_eq_true ((un s i == (181 : Int))) with b18 | b18
          · have a18 := b18; simp only [ge_iff_le, decide_eq_true_eq, decide_eq_false_iff_not, bne_iff_ne, ne_eq, bne_eq_false_iff_eq, beq_iff_eq, beq_eq_false_iff_ne] at a18
            have t := upperL0_16 s i r n0 ⟨hd, hz, hx, b1, b15, b16, b17, b18, rfl, rfl, rfl, (by (try simp only [Int.toNat_natCast]); omega), hl, hin, trivial⟩
            have e : upU (un s i) = ub (924 : Int) := by simp only [upU, b1, b15, b16, b17, b18, Bool.true_and, Bool.and_true, Bool.false_and, Bool.and_false, Bool.or_true, Bool.true_or, Bool.or_false, Bool.false_or, Bool.or_self, Bool.and_self, cond_true, cond_false]
            try simp only [Int.toNat_natCast] at t
            rw [show r.length + 2 = (r ++ ub (924 : Int)).length from by rw [List.length_append]; rfl] at t
            rw [e]; exact ⟨_, Nat.le_refl _, t⟩
          · have a18 := b18; simp only [ge_iff_le, decide_eq_true_eq, decide_eq_false_iff_not, bne_iff_ne, ne_eq, bne_eq_false_iff_eq, beq_iff_eq, beq_eq_false_iff_ne] at a18
            rcases Bool.eq_false_or_eq_true ((un s i == (255 : Int))) with b19 | b19
            · have a19 := b19; simp only [ge_iff_le, decide_eq_true_eq, decide_eq_false_iff_not, bne_iff_ne, ne_eq, bne_eq_false_iff_eq, beq_iff_eq, beq_eq_false_iff_ne] at a19
              have t := upperL0_17 s i r n0 ⟨hd, hz, hx, b1, b15, b16, b17, b18, b19, rfl, rfl, rfl, (by (try simp only [Int.toNat_natCast]); omega), hl, hin, trivial⟩
              have e : upU (un s i) = ub (376 : Int) := by simp only [upU, b1, b15, b16, b17, b18, b19, Bool.true_and, Bool.and_true, Bool.false_and, Bool.and_false, Bool.or_true, Bool.true_or, Bool.or_false, Bool.false_or, Bool.or_self, Bool.and_self, cond_true, cond_false]
              try simp only [Int.toNat_natCast] at t
              rw [show r.length + 2 = (r ++ ub (376 : Int)).length from by rw [List.length_append]; rfl] at t
              rw [e]; exact ⟨_, Nat.le_refl _, t⟩
            · have a19 := b19; simp only [ge_iff_le, decide_eq_true_eq, decide_eq_false_iff_not, bne_iff_ne, ne_eq, bne_eq_false_iff_eq, beq_iff_eq, beq_eq_false_iff_ne] at a19
              rcases Bool.eq_false_or_eq_true ((un s i == (223 : Int))) with b20 | b20
              · have a20 := b20; simp only [ge_iff_le, decide_eq_true_eq, decide_eq_false_iff_not, bne_iff_ne, ne_eq, bne_eq_false_iff_eq, beq_iff_eq, beq_eq_false_iff_ne] at a20
                have t := upperL0_18 s i r n0 ⟨hd, hz, hx, b1, b15, b16, b17, b18, b19, b20, rfl, rfl, rfl, (by (try simp only [Int.toNat_natCast]); omega), hl, rfl, (by rw [List.length_append]; rfl), (by rw [List.length_append]; rfl), (by (try simp only [Int.toNat_natCast]); omega), (by rw [List.length_append]; exact hl2), hin, trivial⟩
                have e : upU (un s i) = ub 83 ++ ub 83 := by simp only [upU, b1, b15, b16, b17, b18, b19, b20, Bool.true_and, Bool.and_true, Bool.false_and, Bool.and_false, Bool.or_true, Bool.true_or, Bool.or_false, Bool.false_or, Bool.or_self, Bool.and_self, cond_true, cond_false]
                try simp only [Int.toNat_natCast] at t
                rw [List.append_assoc, show (r ++ ub 83).length + 2 = (r ++ (ub 83 ++ ub 83)).length from by simp only [List.length_append]; rfl] at t
                rw [e]; exact ⟨_, Nat.le_refl _, t⟩
              · have a20 := b20; simp only [ge_iff_le, decide_eq_true_eq, decide_eq_false_iff_not, bne_iff_ne, ne_eq, bne_eq_false_iff_eq, beq_iff_eq, beq_eq_false_iff_ne] at a20
                have t := upperL0_19 s i r n0 ⟨hd, hz, hx, b1, b15, b16, b17, b18, b19, b20, rfl, rfl, rfl, (by (try simp only [Int.toNat_natCast]); omega), hl, hin, trivial⟩
                have e : upU (un s i) = ub (un s i) := by simp only [upU, b1, b15, b16, b17, b18, b19, b20, Bool.true_and, Bool.and_true, Bool.false_and, Bool.and_false, Bool.or_true, Bool.true_or, Bool.or_false, Bool.false_or, Bool.or_self, Bool.and_self, cond_true, cond_false]
                try simp only [Int.toNat_natCast] at t
                rw [show r.length + 2 = (r ++ ub (un s i)).length from by rw [List.length_append]; rfl] at t
                rw [e]; exact ⟨_, Nat.le_refl _, t⟩
      · have a16 := b16; simp only [ge_iff_le, decide_eq_true_eq, decide_eq_false_iff_not, bne_iff_ne, ne_eq, bne_eq_false_iff_eq, beq_iff_eq, beq_eq_false_iff_ne] at a16
        rcases Bool.eq_false_or_eq_true ((un s i == (181 : Int))) with b21 | b21
        · have a21 := b21; simp only [ge_iff_le, decide_eq_true_eq, decide_eq_false_iff_not, bne_iff_ne, ne_eq, bne_eq_false_iff_eq, beq_iff_eq, beq_eq_false_iff_ne] at a21
          have t := upperL0_20 s i r n0 ⟨hd, hz, hx, b1, b15, b16, b21, rfl, rfl, rfl, (by (try simp only [Int.toNat_natCast]); omega), hl, hin, trivial⟩
          have e : upU (un s i) = ub (924 : Int) := by simp only [upU, b1, b15, b16, b21, Bool.true_and, Bool.and_true, Bool.false_and, Bool.and_false, Bool.or_true, Bool.true_or, Bool.or_false, Bool.false_or, Bool.or_self, Bool.and_self, cond_true, cond_false]
          try simp only [Int.toNat_natCast] at t
          rw [show r.length + 2 = (r ++ ub (924 : Int)).length from by rw [List.length_append]; rfl] at t
          rw [e]; exact ⟨_, Nat.le_refl _, t⟩
        · have a21 := b21; simp only [ge_iff_le, decide_eq_true_eq, decide_eq_false_iff_not, bne_iff_ne, ne_eq, bne_eq_false_iff_eq, beq_iff_eq, beq_eq_false_iff_ne] at a21
          rcases Bool.eq_false_or_eq_true ((un s i == (255 : Int))) with b22 | b22
          · have a22 := b22; simp only [ge_iff_le, decide_eq_true_eq, decide_eq_false_iff_not, bne_iff_ne, ne_eq, bne_eq_false_iff_eq, beq_iff_eq, beq_eq_false_iff_ne] at a22
            have t := upperL0_21 s i r n0 ⟨hd, hz, hx, b1, b15, b16, b21, b22, rfl, rfl, rfl, (by (try simp only [Int.toNat_natCast]); omega), hl, hin, trivial⟩
            have e : upU (un s i) = ub (376 : Int) := by simp only [upU, b1, b15, b16, b21, b22, Bool.true_and, Bool.and_true, Bool.false_and, Bool.and_false, Bool.or_true, Bool.true_or, Bool.or_false, Bool.false_or, Bool.or_self, Bool.and_self, cond_true, cond_false]
            try simp only [Int.toNat_natCast] at t
            rw [show r.length + 2 = (r ++ ub (376 : Int)).length from by rw [List.length_append]; rfl] at t
            rw [e]; exact ⟨_, Nat.le_refl _, t⟩
          · have a22 := b22; simp only [ge_iff_le, decide_eq_true_eq, decide_eq_false_iff_not, bne_iff_ne, ne_eq, bne_eq_false_iff_eq, beq_iff_eq, beq_eq_false_iff_ne] at a22
            rcases Bool.eq_false_or_eq_true ((un s i == (223 : Int))) with b23 | b23
            · have a23 := b23; simp only [ge_iff_le, decide_eq_true_eq, decide_eq_false_iff_not, bne_iff_ne, ne_eq, bne_eq_false_iff_eq, beq_iff_eq, beq_eq_false_iff_ne] at a23
              have t := upperL0_22 s i r n0 ⟨hd, hz, hx, b1, b15, b16, b21, b22, b23, rfl, rfl, rfl, (by (try simp only [Int.toNat_natCast]); omega), hl, rfl, (by rw [List.length_append]; rfl), (by rw [List.length_append]; rfl), (by (try simp only [Int.toNat_natCast]); omega), (by rw [List.length_append]; exact hl2), hin, trivial⟩
              have e : upU (un s i) = ub 83 ++ ub 83 := by simp only [upU, b1, b15, b16, b21, b22, b23, Bool.true_and, Bool.and_true, Bool.false_and, Bool.and_false, Bool.or_true, Bool.true_or, Bool.or_false, Bool.false_or, Bool.or_self, Bool.and_self, cond_true, cond_false]
              try simp only [Int.toNat_natCast] at t
              rw [List.append_assoc, show (r ++ ub 83).length + 2 = (r ++ (ub 83 ++ ub 83)).length from by simp only [List.length_append]; rfl] at t
              rw [e]; exact ⟨_, Nat.le_refl _, t⟩
            · have a23 := b23; simp only [ge_iff_le, decide_eq_true_eq, decide_eq_false_iff_not, bne_iff_ne, ne_eq, bne_eq_false_iff_eq, beq_iff_eq, beq_eq_false_iff_ne] at a23
              have t := upperL0_23 s i r n0 ⟨hd, hz, hx, b1, b15, b16, b21, b22, b23, rfl, rfl, rfl, (by (try simp only [Int.toNat_natCast]); omega), hl, hin, trivial⟩
              have e : upU (un s i) = ub (un s i) := by simp only [upU, b1, b15, b16, b21, b22, b23, Bool.true_and, Bool.and_true, Bool.false_and, Bool.and_false, Bool.or_true, Bool.true_or, Bool.or_false, Bool.false_or, Bool.or_self, Bool.and_self, cond_true, cond_false]
              try simp only [Int.toNat_natCast] at t
              rw [show r.length + 2 = (r ++ ub (un s i)).length from by rw [List.length_append]; rfl] at t
              rw [e]; exact ⟨_, Nat.le_refl _, t⟩
    · have a15 := b15; simp only [ge_iff_le, decide_eq_true_eq, decide_eq_false_iff_not, bne_iff_ne, ne_eq, bne_eq_false_iff_eq, beq_iff_eq, beq_eq_false_iff_ne] at a15
      rcases Bool.eq_false_or_eq_true ((un s i == (181 : Int))) with b24 | b24
      · have a24 := b24; simp only [ge_iff_le, decide_eq_true_eq, decide_eq_false_iff_not, bne_iff_ne, ne_eq, bne_eq_false_iff_eq, beq_iff_eq, beq_eq_false_iff_ne] at a24
        have t := upperL0_24 s i r n0 ⟨hd, hz, hx, b1, b15, b24, rfl, rfl, rfl, (by (try simp only [Int.toNat_natCast]); omega), hl, hin, trivial⟩
        have e : upU (un s i) = ub (924 : Int) := by simp only [upU, b1, b15, b24, Bool.true_and, Bool.and_true, Bool.false_and, Bool.and_false, Bool.or_true, Bool.true_or, Bool.or_false, Bool.false_or, Bool.or_self, Bool.and_self, cond_true, cond_false]
        try simp only [Int.toNat_natCast] at t
        rw [show r.length + 2 = (r ++ ub (924 : Int)).length from by rw [List.length_append]; rfl] at t
        rw [e]; exact ⟨_, Nat.le_refl _, t⟩
      · have a24 := b24; simp only [ge_iff_le, decide_eq_true_eq, decide_eq_false_iff_not, bne_iff_ne, ne_eq, bne_eq_false_iff_eq, beq_iff_eq, beq_eq_false_iff_ne] at a24
        rcases Bool.eq_false_or_eq_true ((un s i == (255 : Int))) with b25 | b25
        · have a25 := b25; simp only [ge_iff_le, decide_eq_true_eq, decide_eq_false_iff_not, bne_iff_ne, ne_eq, bne_eq_false_iff_eq, beq_iff_eq, beq_eq_false_iff_ne] at a25
          have t := upperL0_25 s i r n0 ⟨hd, hz, hx, b1, b15, b24, b25, rfl, rfl, rfl, (by (try simp only [Int.toNat_natCast]); omega), hl, hin, trivial⟩
          have e : upU (un s i) = ub (376 : Int) := by simp only [upU, b1, b15, b24, b25, Bool.true_and, Bool.and_true, Bool.false_and, Bool.and_false, Bool.or_true, Bool.true_or, Bool.or_false, Bool.false_or, Bool.or_self, Bool.and_self, cond_true, cond_false]
          try simp only [Int.toNat_natCast] at t
          rw [show r.length + 2 = (r ++ ub (376 : Int)).length from by rw [List.length_append]; rfl] at t
          rw [e]; exact ⟨_, Nat.le_refl _, t⟩
        · have a25 := b25; simp only [ge_iff_le, decide_eq_true_eq, decide_eq_false_iff_not, bne_iff_ne, ne_eq, bne_eq_false_iff_eq, beq_iff_eq, beq_eq_false_iff_ne] at a25
          rcases Bool.eq_false_or_eq_true ((un s i == (223 : Int))) with b26 | b26
          · have a26 := b26; simp only [ge_iff_le, decide_eq_true_eq, decide_eq_false_iff_not, bne_iff_ne, ne_eq, bne_eq_false_iff_eq, beq_iff_eq, beq_eq_false_iff_ne] at a26
            have t := upperL0_26 s i r n0 ⟨hd, hz, hx, b1, b15, b24, b25, b26, rfl, rfl, rfl, (by (try simp only [Int.toNat_natCast]); omega), hl, rfl, (by rw [List.length_append]; rfl), (by rw [List.length_append]; rfl), (by (try simp only [Int.toNat_natCast]); omega), (by rw [List.length_append]; exact hl2), hin, trivial⟩
            have e : upU (un s i) = ub 83 ++ ub 83 := by simp only [upU, b1, b15, b24, b25, b26, Bool.true_and, Bool.and_true, Bool.false_and, Bool.and_false, Bool.or_true, Bool.true_or, Bool.or_false, Bool.false_or, Bool.or_self, Bool.and_self, cond_true, cond_false]
            try simp only [Int.toNat_natCast] at t
            rw [List.append_assoc, show (r ++ ub 83).length + 2 = (r ++ (ub 83 ++ ub 83)).length from by simp only [List.length_append]; rfl] at t
            rw [e]; exact ⟨_, Nat.le_refl _, t⟩
          · have a26 := b26; simp only [ge_iff_le, decide_eq_true_eq, decide_eq_false_iff_not, bne_iff_ne, ne_eq, bne_eq_false_iff_eq, beq_iff_eq, beq_eq_false_iff_ne] at a26
            have t := upperL0_27 s i r n0 ⟨hd, hz, hx, b1, b15, b24, b25, b26, rfl, rfl, rfl, (by (try simp only [Int.toNat_natCast]); omega), hl, hin, trivial⟩
            have e : upU (un s i) = ub (un s i) := by simp only [upU, b1, b15, b24, b25, b26, Bool.true_and, Bool.and_true, Bool.false_and, Bool.and_false, Bool.or_true, Bool.true_or, Bool.or_false, Bool.false_or, Bool.or_self, Bool.and_self, cond_true, cond_false]
            try simp only [Int.toNat_natCast] at t
            rw [show r.length + 2 = (r ++ ub (un s i)).length from by rw [List.length_append]; rfl] at t
            rw [e]; exact ⟨_, Nat.le_refl _, t⟩

theorem rupper_step (s : ByteArray) (i : Nat) (r : List Int) (n0 : Nat) (hi : i < ul s) (hs : SM s) (hr : r.length ≤ 4 * i) : ∃ n1, n1 ≤ (r ++ rupU (un s i)).length ∧ To Tryd.prog (loopAt Tryd.f41 0) (rupperS0 s i r n0) .normal (rupperS0 s ((i + 1 : Nat) : Int) (r ++ rupU (un s i)) n1) := by
  have hz := hs.sz
  have hd : decide ((i : Int) < (↑(ul s) : Int)) = true := by simpa using hi
  have hu : ul s ≤ s.size := by unfold ul; omega
  unfold SM at hs
  have hx : (0 : Int) ≤ i ∧ (i : Int) < (↑(ul s) : Int) := ⟨by omega, by omega⟩
  have hin : inR IntKind.i64 ((i : Int) + (1 : Int)) := by simp only [inR]; omega
  have hl : r.length < lim := by unfold lim; omega
  have hl2 : r.length + (ub 83).length < lim := by show r.length + 2 < lim; unfold lim; omega
  have hb := un_lt s i
  rcases Bool.eq_false_or_eq_true (decide (un s i ≥ (97 : Int))) with b1 | b1
  · have a1 := b1; simp only [ge_iff_le, decide_eq_true_eq, decide_eq_false_iff_not, bne_iff_ne, ne_eq, bne_eq_false_iff_eq, beq_iff_eq, beq_eq_false_iff_ne] at a1
    rcases Bool.eq_false_or_eq_true (decide (un s i ≤ (122 : Int))) with b2 | b2
    · have a2 := b2; simp only [ge_iff_le, decide_eq_true_eq, decide_eq_false_iff_not, bne_iff_ne, ne_eq, bne_eq_false_iff_eq, beq_iff_eq, beq_eq_false_iff_ne] at a2
      have t := rupperL0_1 s i r n0 ⟨hz, hd, hz, hx, b1, b2, rfl, rfl, rfl, (by (try simp only [Int.toNat_natCast]); omega), hl, hin, trivial⟩
      have e : rupU (un s i) = ub ((un s i - (32 : Int)) % (65536 : Int)) := by simp only [rupU, b1, b2, Bool.true_and, Bool.and_true, Bool.false_and, Bool.and_false, Bool.or_true, Bool.true_or, Bool.or_false, Bool.false_or, Bool.or_self, Bool.and_self, cond_true, cond_false]
      try simp only [Int.toNat_natCast] at t
      rw [show r.length + 2 = (r ++ ub ((un s i - (32 : Int)) % (65536 : Int))).length from by rw [List.length_append]; rfl] at t
      rw [e]; exact ⟨_, Nat.le_refl _, t⟩
    · have a2 := b2; simp only [ge_iff_le, decide_eq_true_eq, decide_eq_false_iff_not, bne_iff_ne, ne_eq, bne_eq_false_iff_eq, beq_iff_eq, beq_eq_false_iff_ne] at a2
      rcases Bool.eq_false_or_eq_true (decide (un s i ≥ (224 : Int))) with b3 | b3
      · have a3 := b3; simp only [ge_iff_le, decide_eq_true_eq, decide_eq_false_iff_not, bne_iff_ne, ne_eq, bne_eq_false_iff_eq, beq_iff_eq, beq_eq_false_iff_ne] at a3
        rcases Bool.eq_false_or_eq_true (decide (un s i ≤ (254 : Int))) with b4 | b4
        · have a4 := b4; simp only [ge_iff_le, decide_eq_true_eq, decide_eq_false_iff_not, bne_iff_ne, ne_eq, bne_eq_false_iff_eq, beq_iff_eq, beq_eq_false_iff_ne] at a4
          rcases Bool.eq_false_or_eq_true ((un s i != (247 : Int))) with b5 | b5
          · have a5 := b5; simp only [ge_iff_le, decide_eq_true_eq, decide_eq_false_iff_not, bne_iff_ne, ne_eq, bne_eq_false_iff_eq, beq_iff_eq, beq_eq_false_iff_ne] at a5
            have t := rupperL0_2 s i r n0 ⟨hz, hd, hz, hx, b1, b2, b3, b4, b5, rfl, rfl, rfl, (by (try simp only [Int.toNat_natCast]); omega), hl, hin, trivial⟩
            have e : rupU (un s i) = ub ((un s i - (32 : Int)) % (65536 : Int)) := by simp only [rupU, b1, b2, b3, b4, b5, Bool.true_and, Bool.and_true, Bool.false_and, Bool.and_false, Bool.or_true, Bool.true_or, Bool.or_false, Bool.false_or, Bool.or_self, Bool.and_self, cond_true, cond_false]
            try simp only [Int.toNat_natCast] at t
            rw [show r.length + 2 = (r ++ ub ((un s i - (32 : Int)) % (65536 : Int))).length from by rw [List.length_append]; rfl] at t
            rw [e]; exact ⟨_, Nat.le_refl _, t⟩
          · have a5 := b5; simp only [ge_iff_le, decide_eq_true_eq, decide_eq_false_iff_not, bne_iff_ne, ne_eq, bne_eq_false_iff_eq, beq_iff_eq, beq_eq_false_iff_ne] at a5
            rcases Bool.eq_false_or_eq_true ((un s i == (181 : Int))) with b6 | b6
            · have a6 := b6; simp only [ge_iff_le, decide_eq_true_eq, decide_eq_false_iff_not, bne_iff_ne, ne_eq, bne_eq_false_iff_eq, beq_iff_eq, beq_eq_false_iff_ne] at a6
              have t := rupperL0_3 s i r n0 ⟨hz, hd, hz, hx, b1, b2, b3, b4, b5, b6, rfl, rfl, rfl, (by (try simp only [Int.toNat_natCast]); omega), hl, hin, trivial⟩
              have e : rupU (un s i) = ub (924 : Int) := by simp only [rupU, b1, b2, b3, b4, b5, b6, Bool.true_and, Bool.and_true, Bool.false_and, Bool.and_false, Bool.or_true, Bool.true_or, Bool.or_false, Bool.false_or, Bool.or_self, Bool.and_self, cond_true, cond_false]
              try simp only [Int.toNat_natCast] at t
              rw [show r.length + 2 = (r ++ ub (924 : Int)).length from by rw [List.length_append]; rfl] at t
              rw [e]; exact ⟨_, Nat.le_refl _, t⟩
            · have a6 := b6; simp only [ge_iff_le, decide_eq_true_eq, decide_eq_false_iff_not, bne_iff_ne, ne_eq, bne_eq_false_iff_eq, beq_iff_eq, beq_eq_false_iff_ne] at a6
              rcases Bool.eq_false_or_eq_true ((un s i == (223 : Int))) with b7 | b7
              · have a7 := b7; simp only [ge_iff_le, decide_eq_true_eq, decide_eq_false_iff_not, bne_iff_ne, ne_eq, bne_eq_false_iff_eq, beq_iff_eq, beq_eq_false_iff_ne] at a7
                have t := rupperL0_4 s i r n0 ⟨hz, hd, hz, hx, b1, b2, b3, b4, b5, b6, b7, rfl, rfl, rfl, (by (try simp only [Int.toNat_natCast]); omega), hl, rfl, (by rw [List.length_append]; rfl), (by rw [List.length_append]; rfl), (by (try simp only [Int.toNat_natCast]); omega), (by rw [List.length_append]; exact hl2), hin, trivial⟩
                have e : rupU (un s i) = ub 83 ++ ub 83 := by simp only [rupU, b1, b2, b3, b4, b5, b6, b7, Bool.true_and, Bool.and_true, Bool.false_and, Bool.and_false, Bool.or_true, Bool.true_or, Bool.or_false, Bool.false_or, Bool.or_self, Bool.and_self, cond_true, cond_false]
                try simp only [Int.toNat_natCast] at t
                rw [List.append_assoc, show (r ++ ub 83).length + 2 = (r ++ (ub 83 ++ ub 83)).length from by simp only [List.length_append]; rfl] at t
                rw [e]; exact ⟨_, Nat.le_refl _, t⟩
              · have a7 := b7; simp only [ge_iff_le, decide_eq_true_eq, decide_eq_false_iff_not, bne_iff_ne, ne_eq, bne_eq_false_iff_eq, beq_iff_eq, beq_eq_false_iff_ne] at a7
                rcases Bool.eq_false_or_eq_true ((un s i == (255 : Int))) with b8 | b8
                · have a8 := b8; simp only [ge_iff_le, decide_eq_true_eq, decide_eq_false_iff_not, bne_iff_ne, ne_eq, bne_eq_false_iff_eq, beq_iff_eq, beq_eq_false_iff_ne] at a8
                  have t := rupperL0_5 s i r n0 ⟨hz, hd, hz, hx, b1, b2, b3, b4, b5, b6, b7, b8, rfl, rfl, rfl, (by (try simp only [Int.toNat_natCast]); omega), hl, hin, trivial⟩
                  have e : rupU (un s i) = ub (376 : Int) := by simp only [rupU, b1, b2, b3, b4, b5, b6, b7, b8, Bool.true_and, Bool.and_true, Bool.false_and, Bool.and_false, Bool.or_true, Bool.true_or, Bool.or_false, Bool.false_or, Bool.or_self, Bool.and_self, cond_true, cond_false]
                  try simp only [Int.toNat_natCast] at t
                  rw [show r.length + 2 = (r ++ ub (376 : Int)).length from by rw [List.length_append]; rfl] at t
                  rw [e]; exact ⟨_, Nat.le_refl _, t⟩
                · have a8 := b8; simp only [ge_iff_le, decide_eq_true_eq, decide_eq_false_iff_not, bne_iff_ne, ne_eq, bne_eq_false_iff_eq, beq_iff_eq, beq_eq_false_iff_ne] at a8
                  have t := rupperL0_6 s i r n0 ⟨hz, hd, hz, hx, b1, b2, b3, b4, b5, b6, b7, b8, rfl, rfl, rfl, (by (try simp only [Int.toNat_natCast]); omega), hl, hin, trivial⟩
                  have e : rupU (un s i) = ub (un s i) := by simp only [rupU, b1, b2, b3, b4, b5, b6, b7, b8, Bool.true_and, Bool.and_true, Bool.false_and, Bool.and_false, Bool.or_true, Bool.true_or, Bool.or_false, Bool.false_or, Bool.or_self, Bool.and_self, cond_true, cond_false]
                  try simp only [Int.toNat_natCast] at t
                  rw [show r.length + 2 = (r ++ ub (un s i)).length from by rw [List.length_append]; rfl] at t
                  rw [e]; exact ⟨_, Nat.le_refl _, t⟩
        · have a4 := b4; simp only [ge_iff_le, decide_eq_true_eq, decide_eq_false_iff_not, bne_iff_ne, ne_eq, bne_eq_false_iff_eq, beq_iff_eq, beq_eq_false_iff_ne] at a4
          rcases Bool.eq_false_or_eq_true ((un s i == (181 : Int))) with b9 | b9
          · have a9 := b9; simp only [ge_iff_le, decide_eq_true_eq, decide_eq_false_iff_not, bne_iff_ne, ne_eq, bne_eq_false_iff_eq, beq_iff_eq, beq_eq_false_iff_ne] at a9
            have t := rupperL0_7 s i r n0 ⟨hz, hd, hz, hx, b1, b2, b3, b4, b9, rfl, rfl, rfl, (by (try simp only [Int.toNat_natCast]); omega), hl, hin, trivial⟩
            have e : rupU (un s i) = ub (924 : Int) := by simp only [rupU, b1, b2, b3, b4, b9, Bool.true_and, Bool.and_true, Bool.false_and, Bool.and_false, Bool.or_true, Bool.true_or, Bool.or_false, Bool.false_or, Bool.or_self, Bool.and_self, cond_true, cond_false]
            try simp only [Int.toNat_natCast] at t
            rw [show r.length + 2 = (r ++ ub (924 : Int)).length from by rw [List.length_append]; rfl] at t
            rw [e]; exact ⟨_, Nat.le_refl _, t⟩
          · have a9 := b9; simp only [ge_iff_le, decide_eq_true_eq, decide_eq_false_iff_not, bne_iff_ne, ne_eq, bne_eq_false_iff_eq, beq_iff_eq, beq_eq_false_iff_ne] at a9
            rcases Bool.eq_false_or_eq_true ((un s i == (223 : Int))) with b10 | b10
            · have a10 := b10; simp only [ge_iff_le, decide_eq_true_eq, decide_eq_false_iff_not, bne_iff_ne, ne_eq, bne_eq_false_iff_eq, beq_iff_eq, beq_eq_false_iff_ne] at a10
              have t := rupperL0_8 s i r n0 ⟨hz, hd, hz, hx, b1, b2, b3, b4, b9, b10, rfl, rfl, rfl, (by (try simp only [Int.toNat_natCast]); omega), hl, rfl, (by rw [List.length_append]; rfl), (by rw [List.length_append]; rfl), (by (try simp only [Int.toNat_natCast]); omega), (by rw [List.length_append]; exact hl2), hin, trivial⟩
              have e : rupU (un s i) = ub 83 ++ ub 83 := by simp only [rupU, b1, b2, b3, b4, b9, b10, Bool.true_and, Bool.and_true, Bool.false_and, Bool.and_false, Bool.or_true, Bool.true_or, Bool.or_false, Bool.false_or, Bool.or_self, Bool.and_self, cond_true, cond_false]
              try simp only [Int.toNat_natCast] at t
              rw [List.append_assoc, show (r ++ ub 83).length + 2 = (r ++ (ub 83 ++ ub 83)).length from by simp only [List.length_append]; rfl] at t
              rw [e]; exact ⟨_, Nat.le_refl _, t⟩
            · have a10 := b10; simp only [ge_iff_le, decide_eq_true_eq, decide_eq_false_iff_not, bne_iff_ne, ne_eq, bne_eq_false_iff_eq, beq_iff_eq, beq_eq_false_iff_ne] at a10
              rcases Bool.eq_false_or_eq_true ((un s i == (255 : Int))) with b11 | b11
              · have a11 := b11; simp only [ge_iff_le, decide_eq_true_eq, decide_eq_false_iff_not, bne_iff_ne, ne_eq, bne_eq_false_iff_eq, beq_iff_eq, beq_eq_false_iff_ne] at a11
                have t := rupperL0_9 s i r n0 ⟨hz, hd, hz, hx, b1, b2, b3, b4, b9, b10, b11, rfl, rfl, rfl, (by (try simp only [Int.toNat_natCast]); omega), hl, hin, trivial⟩
                have e : rupU (un s i) = ub (376 : Int) := by simp only [rupU, b1, b2, b3, b4, b9, b10, b11, Bool.true_and, Bool.and_true, Bool.false_and, Bool.and_false, Bool.or_true, Bool.true_or, Bool.or_false, Bool.false_or, Bool.or_self, Bool.and_self, cond_true, cond_false]
                try simp only [Int.toNat_natCast] at t
                rw [show r.length + 2 = (r ++ ub (376 : Int)).length from by rw [List.length_append]; rfl] at t
                rw [e]; exact ⟨_, Nat.le_refl _, t⟩
              · have a11 := b11; simp only [ge_iff_le, decide_eq_true_eq, decide_eq_false_iff_not, bne_iff_ne, ne_eq, bne_eq_false_iff_eq, beq_iff_eq, beq_eq_false_iff_ne] at a11
                have t := rupperL0_10 s i r n0 ⟨hz, hd, hz, hx, b1, b2, b3, b4, b9, b10, b11, rfl, rfl, rfl, (by (try simp only [Int.toNat_natCast]); omega), hl, hin, trivial⟩
                have e : rupU (un s i) = ub (un s i) := by simp only [rupU, b1, b2, b3, b4, b9, b10, b11, Bool.true_and, Bool.and_true, Bool.false_and, Bool.and_false, Bool.or_true, Bool.true_or, Bool.or_false, Bool.false_or, Bool.or_self, Bool.and_self, cond_true, cond_false]
                try simp only [Int.toNat_natCast] at t
                rw [show r.length + 2 = (r ++ ub (un s i)).length from by rw [List.length_append]; rfl] at t
                rw [e]; exact ⟨_, Nat.le_refl _, t⟩
      · have a3 := b3; simp only [ge_iff_le, decide_eq_true_eq, decide_eq_false_iff_not, bne_iff_ne, ne_eq, bne_eq_false_iff_eq, beq_iff_eq, beq_eq_false_iff_ne] at a3
        rcases Bool.eq_false_or_eq_true ((un s i == (181 : Int))) with b12 | b12
        · have a12 := b12; simp only [ge_iff_le, decide_eq_true_eq, decide_eq_false_iff_not, bne_iff_ne, ne_eq, bne_eq_false_iff_eq, beq_iff_eq, beq_eq_false_iff_ne] at a12
          have t := rupperL0_11 s i r n0 ⟨hz, hd, hz, hx, b1, b2, b3, b12, rfl, rfl, rfl, (by (try simp only [Int.toNat_natCast]); omega), hl, hin, trivial⟩
          have e : rupU (un s i) = ub (924 : Int) := by simp only [rupU, b1, b2, b3, b12, Bool.true_and, Bool.and_true, Bool.false_and, Bool.and_false, Bool.or_true, Bool.true_or, Bool.or_false, Bool.false_or, Bool.or_self, Bool.and_self, cond_true, cond_false]
          try simp only [Int.toNat_natCast] at t
          rw [show r.length + 2 = (r ++ ub (924 : Int)).length from by rw [List.length_append]; rfl] at t
          rw [e]; exact ⟨_, Nat.le_refl _, t⟩
        · have a12 := b12; simp only [ge_iff_le, decide_eq_true_eq, decide_eq_false_iff_not, bne_iff_ne, ne_eq, bne_eq_false_iff_eq, beq_iff_eq, beq_eq_false_iff_ne] at a12
          rcases Bool.eq_false_or_eq_true ((un s i == (223 : Int))) with b13 | b13
          · have a13 := b13; simp only [ge_iff_le, decide_eq_true_eq, decide_eq_false_iff_not, bne_iff_ne, ne_eq, bne_eq_false_iff_eq, beq_iff_eq, beq_eq_false_iff_ne] at a13
            have t := rupperL0_12 s i r n0 ⟨hz, hd, hz, hx, b1, b2, b3, b12, b13, rfl, rfl, rfl, (by (try simp only [Int.toNat_natCast]); omega), hl, rfl, (by rw [List.length_append]; rfl), (by rw [List.length_append]; rfl), (by (try simp only [Int.toNat_natCast]); omega), (by rw [List.length_append]; exact hl2), hin, trivial⟩
            have e : rupU (un s i) = ub 83 ++ ub 83 := by simp only [rupU, b1, b2, b3, b12, b13, Bool.true_and, Bool.and_true, Bool.false_and, Bool.and_false, Bool.or_true, Bool.true_or, Bool.or_false, Bool.false_or, Bool.or_self, Bool.and_self, cond_true, cond_false]
            try simp only [Int.toNat_natCast] at t
            rw [List.append_assoc, show (r ++ ub 83).length + 2 = (r ++ (ub 83 ++ ub 83)).length from by simp only [List.length_append]; rfl] at t
            rw [e]; exact ⟨_, Nat.le_refl _, t⟩
          · have a13 := b13; simp only [ge_iff_le, decide_eq_true_eq, decide_eq_false_iff_not, bne_iff_ne, ne_eq, bne_eq_false_iff_eq, beq_iff_eq, beq_eq_false_iff_ne] at a13
            rcases Bool.eq_false_or_eq_true ((un s i == (255 : Int))) with b14 | b14
            · have a14 := b14; simp only [ge_iff_le, decide_eq_true_eq, decide_eq_false_iff_not, bne_iff_ne, ne_eq, bne_eq_false_iff_eq, beq_iff_eq, beq_eq_false_iff_ne] at a14
              have t := rupperL0_13 s i r n0 ⟨hz, hd, hz, hx, b1, b2, b3, b12, b13, b14, rfl, rfl, rfl, (by (try simp only [Int.toNat_natCast]); omega), hl, hin, trivial⟩
              have e : rupU (un s i) = ub (376 : Int) := by simp only [rupU, b1, b2, b3, b12, b13, b14, Bool.true_and, Bool.and_true, Bool.false_and, Bool.and_false, Bool.or_true, Bool.true_or, Bool.or_false, Bool.false_or, Bool.or_self, Bool.and_self, cond_true, cond_false]
              try simp only [Int.toNat_natCast] at t
              rw [show r.length + 2 = (r ++ ub (376 : Int)).length from by rw [List.length_append]; rfl] at t
              rw [e]; exact ⟨_, Nat.le_refl _, t⟩
            · have a14 := b14; simp only [ge_iff_le, decide_eq_true_eq, decide_eq_false_iff_not, bne_iff_ne, ne_eq, bne_eq_false_iff_eq, beq_iff_eq, beq_eq_false_iff_ne] at a14
              have t := rupperL0_14 s i r n0 ⟨hz, hd, hz, hx, b1, b2, b3, b12, b13, b14, rfl, rfl, rfl, (by (try simp only [Int.toNat_natCast]); omega), hl, hin, trivial⟩
              have e : rupU (un s i) = ub (un s i) := by simp only [rupU, b1, b2, b3, b12, b13, b14, Bool.true_and, Bool.and_true, Bool.false_and, Bool.and_false, Bool.or_true, Bool.true_or, Bool.or_false, Bool.false_or, Bool.or_self, Bool.and_self, cond_true, cond_false]
              try simp only [Int.toNat_natCast] at t
              rw [show r.length + 2 = (r ++ ub (un s i)).length from by rw [List.length_append]; rfl] at t
              rw [e]; exact ⟨_, Nat.le_refl _, t⟩
  · have a1 := b1; simp only [ge_iff_le, decide_eq_true_eq, decide_eq_false_iff_not, bne_iff_ne, ne_eq, bne_eq_false_iff_eq, beq_iff_eq, beq_eq_false_iff_ne] at a1
    rcases Bool.eq_false_or_eq_true (decide (un s i ≥ (224 : Int))) with b15 | b15
    · have a15 := b15; simp only [ge_iff_le, decide_eq_true_eq, decide_eq_false_iff_not, bne_iff_ne, ne_eq, bne_eq_false_iff_eq, beq_iff_eq, beq_eq_false_iff_ne] at a15
      rcases Bool.eq_false_or_eq_true (decide (un s i ≤ (254 : Int))) with b16 | b16
      · have a16 := b16; simp only [ge_iff_le, decide_eq_true_eq, decide_eq_false_iff_not, bne_iff_ne, ne_eq, bne_eq_false_iff_eq, beq_iff_eq, beq_eq_false_iff_ne] at a16
        rcases Bool.eq_false_or_eq_true ((un s i != (247 : Int))) with b17 | b17
        · have a17 := b17; simp only [ge_iff_le, decide_eq_true_eq, decide_eq_false_iff_not, bne_iff_ne, ne_eq, bne_eq_false_iff_eq, beq_iff_eq, beq_eq_false_iff_ne] at a17
          have t := rupperL0_15 s i r n0 ⟨hz, hd, hz, hx, b1, b15, b16, b17, rfl, rfl, rfl, (by (try simp only [Int.toNat_natCast]); omega), hl, hin, trivial⟩
          have e : rupU (un s i) = ub ((un s i - (32 : Int)) % (65536 : Int)) := by simp only [rupU, b1, b15, b16, b17, Bool.true_and, Bool.and_true, Bool.false_and, Bool.and_false, Bool.or_true, Bool.true_or, Bool.or_false, Bool.false_or, Bool.or_self, Bool.and_self, cond_true, cond_false]
          try simp only [Int.toNat_natCast] at t
          rw [show r.length + 2 = (r ++ ub ((un s i - (32 : Int)) % (65536 : Int))).length from by rw [List.length_append]; rfl] at t
          rw [e]; exact ⟨_, Nat.le_refl _, t⟩
        · have a17 := b17; simp only [ge_iff_le, decide_eq_true_eq, decide_eq_false_iff_not, bne_iff_ne, ne_eq, bne_eq_false_iff_eq, beq_iff_eq, beq_eq_false_iff_ne] at a17
          rcases Bool.eq_false_or_eq_true ((un s i == (181 : Int))) with b18 | b18
          · have a18 := b18; simp only [ge_iff_le, decide_eq_true_eq, decide_eq_false_iff_not, bne_iff_ne, ne_eq, bne_eq_false_iff_eq, beq_iff_eq, beq_eq_false_iff_ne] at a18
            have t := rupperL0_16 s i r n0 ⟨hz, hd, hz, hx, b1, b15, b16, b17, b18, rfl, rfl, rfl, (by (try simp only [Int.toNat_natCast]); omega), hl, hin, trivial⟩
            have e : rupU (un s i) = ub (924 : Int) := by simp only [rupU, b1, b15, b16, b17, b18, Bool.true_and, Bool.and_true, Bool.false_and, Bool.and_false, Bool.or_true, Bool.true_or, Bool.or_false, Bool.false_or, Bool.or_self, Bool.and_self, cond_true, cond_false]
            try simp only [Int.toNat_natCast] at t
            rw [show r.length + 2 = (r ++ ub (924 : Int)).length from by rw [List.length_append]; rfl] at t
            rw [e]; exact ⟨_, Nat.le_refl _, t⟩
          · have a18 := b18; simp only [ge_iff_le, decide_eq_true_eq, decide_eq_false_iff_not, bne_iff_ne, ne_eq, bne_eq_false_iff_eq, beq_iff_eq, beq_eq_false_iff_ne] at a18
            rcases Bool.eq_false_or_eq_true ((un s i == (223 : Int))) with b19 | b19
            · have a19 := b19; simp only [ge_iff_le, decide_eq_true_eq, decide_eq_false_iff_not, bne_iff_ne, ne_eq, bne_eq_false_iff_eq, beq_iff_eq, beq_eq_false_iff_ne] at a19
              have t := rupperL0_17 s i r n0 ⟨hz, hd, hz, hx, b1, b15, b16, b17, b18, b19, rfl, rfl, rfl, (by (try simp only [Int.toNat_natCast]); omega), hl, rfl, (by rw [List.length_append]; rfl), (by rw [List.length_append]; rfl), (by (try simp only [Int.toNat_natCast]); omega), (by rw [List.length_append]; exact hl2), hin, trivial⟩
              have e : rupU (un s i) = ub 83 ++ ub 83 := by simp only [rupU, b1, b15, b16, b17, b18, b19, Bool.true_and, Bool.and_true, Bool.false_and, Bool.and_false, Bool.or_true, Bool.true_or, Bool.or_false, Bool.false_or, Bool.or_self, Bool.and_self, cond_true, cond_false]
              try simp only [Int.toNat_natCast] at t
              rw [List.append_assoc, show (r ++ ub 83).length + 2 = (r ++ (ub 83 ++ ub 83)).length from by simp only [List.length_append]; rfl] at t
              rw [e]; exact ⟨_, Nat.le_refl _, t⟩
            · have a19 := b19; simp only [ge_iff_le, decide_eq_true_eq, decide_eq_false_iff_not, bne_iff_ne, ne_eq, bne_eq_false_iff_eq, beq_iff_eq, beq_eq_false_iff_ne] at a19
              rcases Bool.eq_false_or_eq_true ((un s i == (255 : Int))) with b20 | b20
              · have a20 := b20; simp only [ge_iff_le, decide_eq_true_eq, decide_eq_false_iff_not, bne_iff_ne, ne_eq, bne_eq_false_iff_eq, beq_iff_eq, beq_eq_false_iff_ne] at a20
                have t := rupperL0_18 s i r n0 ⟨hz, hd, hz, hx, b1, b15, b16, b17, b18, b19, b20, rfl, rfl, rfl, (by (try simp only [Int.toNat_natCast]); omega), hl, hin, trivial⟩
                have e : rupU (un s i) = ub (376 : Int) := by simp only [rupU, b1, b15, b16, b17, b18, b19, b20, Bool.true_and, Bool.and_true, Bool.false_and, Bool.and_false, Bool.or_true, Bool.true_or, Bool.or_false, Bool.false_or, Bool.or_self, Bool.and_self, cond_true, cond_false]
                try simp only [Int.toNat_natCast] at t
                rw [show r.length + 2 = (r ++ ub (376 : Int)).length from by rw [List.length_append]; rfl] at t
                rw [e]; exact ⟨_, Nat.le_refl _, t⟩
              · have a20 := b20; simp only [ge_iff_le, decide_eq_true_eq, decide_eq_false_iff_not, bne_iff_ne, ne_eq, bne_eq_false_iff_eq, beq_iff_eq, beq_eq_false_iff_ne] at a20
                have t := rupperL0_19 s i r n0 ⟨hz, hd, hz, hx, b1, b15, b16, b17, b18, b19, b20, rfl, rfl, rfl, (by (try simp only [Int.toNat_natCast]); omega), hl, hin, trivial⟩
                have e : rupU (un s i) = ub (un s i) := by simp only [rupU, b1, b15, b16, b17, b18, b19, b20, Bool.true_and, Bool.and_true, Bool.false_and, Bool.and_false, Bool.or_true, Bool.true_or, Bool.or_false, Bool.false_or, Bool.or_self, Bool.and_self, cond_true, cond_false]
                try simp only [Int.toNat_natCast] at t
                rw [show r.length + 2 = (r ++ ub (un s i)).length from by rw [List.length_append]; rfl] at t
                rw [e]; exact ⟨_, Nat.le_refl _, t⟩
      · have a16 := b16; simp only [ge_iff_le, decide_eq_true_eq, decide_eq_false_iff_not, bne_iff_ne, ne_eq, bne_eq_false_iff_eq, beq_iff_eq, beq_eq_false_iff_ne] at a16
        rcases Bool.eq_false_or_eq_true ((un s i == (181 : Int))) with b21 | b21
        · have a21 := b21; simp only [ge_iff_le, decide_eq_true_eq, decide_eq_false_iff_not, bne_iff_ne, ne_eq, bne_eq_false_iff_eq, beq_iff_eq, beq_eq_false_iff_ne] at a21
          have t := rupperL0_20 s i r n0 ⟨hz, hd, hz, hx, b1, b15, b16, b21, rfl, rfl, rfl, (by (try simp only [Int.toNat_natCast]); omega), hl, hin, trivial⟩
          have e : rupU (un s i) = ub (924 : Int) := by simp only [rupU, b1, b15, b16, b21, Bool.true_and, Bool.and_true, Bool.false_and, Bool.and_false, Bool.or_true, Bool.true_or, Bool.or_false, Bool.false_or, Bool.or_self, Bool.and_self, cond_true, cond_false]
          try simp only [Int.toNat_natCast] at t
          rw [show r.length + 2 = (r ++ ub (924 : Int)).length from by rw [List.length_append]; rfl] at t
          rw [e]; exact ⟨_, Nat.le_refl _, t⟩
        · have a21 := b21; simp only [ge_iff_le, decide_eq_true_eq, decide_eq_false_iff_not, bne_iff_ne, ne_eq, bne_eq_false_iff_eq, beq_iff_eq, beq_eq_false_iff_ne] at a21
          rcases Bool.eq_false_or_eq_true ((un s i == (223 : Int))) with b22 | b22
          · have a22 := b22; simp only [ge_iff_le, decide_eq_true_eq, decide_eq_false_iff_not, bne_iff_ne, ne_eq, bne_eq_false_iff_eq, beq_iff_eq, beq_eq_false_iff_ne] at a22
            have t := rupperL0_21 s i r n0 ⟨hz, hd, hz, hx, b1, b15, b16, b21, b22, rfl, rfl, rfl, (by (try simp only [Int.toNat_natCast]); omega), hl, rfl, (by rw [List.length_append]; rfl), (by rw [List.length_append]; rfl), (by (try simp only [Int.toNat_natCast]); omega), (by rw [List.length_append]; exact hl2), hin, trivial⟩
            have e : rupU (un s i) = ub 83 ++ ub 83 := by simp only [rupU, b1, b15, b16, b21, b22, Bool.true_and, Bool.and_true, Bool.false_and, Bool.and_false, Bool.or_true, Bool.true_or, Bool.or_false, Bool.false_or, Bool.or_self, Bool.and_self, cond_true, cond_false]
            try simp only [Int.toNat_natCast] at t
            rw [List.append_assoc, show (r ++ ub 83).length + 2 = (r ++ (ub 83 ++ ub 83)).length from by simp only [List.length_append]; rfl] at t
            rw [e]; exact ⟨_, Nat.le_refl _, t⟩
          · have a22 := b22; simp only [ge_iff_le, decide_eq_true_eq, decide_eq_false_iff_not, bne_iff_ne, ne_eq, bne_eq_false_iff_eq, beq_iff_eq, beq_eq_false_iff_ne] at a22
            rcases Bool.eq_false_or_eq_true ((un s i == (255 : Int))) with b23 | b23
            · have a23 := b23; simp only [ge_iff_le, decide_eq_true_eq, decide_eq_false_iff_not, bne_iff_ne, ne_eq, bne_eq_false_iff_eq, beq_iff_eq, beq_eq_false_iff_ne] at a23
              have t := rupperL0_22 s i r n0 ⟨hz, hd, hz, hx, b1, b15, b16, b21, b22, b23, rfl, rfl, rfl, (by (try simp only [Int.toNat_natCast]); omega), hl, hin, trivial⟩
              have e : rupU (un s i) = ub (376 : Int) := by simp only [rupU, b1, b15, b16, b21, b22, b23, Bool.true_and, Bool.and_true, Bool.false_and, Bool.and_false, Bool.or_true, Bool.true_or, Bool.or_false, Bool.false_or, Bool.or_self, Bool.and_self, cond_true, cond_false]
              try simp only [Int.toNat_natCast] at t
              rw [show r.length + 2 = (r ++ ub (376 : Int)).length from by rw [List.length_append]; rfl] at t
              rw [e]; exact ⟨_, Nat.le_refl _, t⟩
            · have a23 := b23; simp only [ge_iff_le, decide_eq_true_eq, decide_eq_false_iff_not, bne_iff_ne, ne_eq, bne_eq_false_iff_eq, beq_iff_eq, beq_eq_false_iff_ne] at a23
              have t := rupperL0_23 s i r n0 ⟨hz, hd, hz, hx, b1, b15, b16, b21, b22, b23, rfl, rfl, rfl, (by (try simp only [Int.toNat_natCast]); omega), hl, hin, trivial⟩
              have e : rupU (un s i) = ub (un s i) := by simp only [rupU, b1, b15, b16, b21, b22, b23, Bool.true_and, Bool.and_true, Bool.false_and, Bool.and_false, Bool.or_true, Bool.true_or, Bool.or_false, Bool.false_or, Bool.or_self, Bool.and_self, cond_true, cond_false]
              try simp only [Int.toNat_natCast] at t
              rw [show r.length + 2 = (r ++ ub (un s i)).length from by rw [List.length_append]; rfl] at t
              rw [e]; exact ⟨_, Nat.le_refl _, t⟩
    · have a15 := b15; simp only [ge_iff_le, decide_eq_true_eq, decide_eq_false_iff_not, bne_iff_ne, ne_eq, bne_eq_false_iff_eq, beq_iff_eq, beq_eq_false_iff_ne] at a15
      rcases Bool.eq_false_or_eq_true ((un s i == (181 : Int))) with b24 | b24
      · have a24 := b24; simp only [ge_iff_le, decide_eq_true_eq, decide_eq_false_iff_not, bne_iff_ne, ne_eq, bne_eq_false_iff_eq, beq_iff_eq, beq_eq_false_iff_ne] at a24
        have t := rupperL0_24 s i r n0 ⟨hz, hd, hz, hx, b1, b15, b24, rfl, rfl, rfl, (by (try simp only [Int.toNat_natCast]); omega), hl, hin, trivial⟩
        have e : rupU (un s i) = ub (924 : Int) := by simp only [rupU, b1, b15, b24, Bool.true_and, Bool.and_true, Bool.false_and, Bool.and_false, Bool.or_true, Bool.true_or, Bool.or_false, Bool.false_or, Bool.or_self, Bool.and_self, cond_true, cond_false]
        try simp only [Int.toNat_natCast] at t
        rw [show r.length + 2 = (r ++ ub (924 : Int)).length from by rw [List.length_append]; rfl] at t
        rw [e]; exact ⟨_, Nat.le_refl _, t⟩
      · have a24 := b24; simp only [ge_iff_le, decide_eq_true_eq, decide_eq_false_iff_not, bne_iff_ne, ne_eq, bne_eq_false_iff_eq, beq_iff_eq, beq_eq_false_iff_ne] at a24
        rcases Bool.eq_false_or_eq_true ((un s i == (223 : Int))) with b25 | b25
        · have a25 := b25; simp only [ge_iff_le, decide_eq_true_eq, decide_eq_false_iff_not, bne_iff_ne, ne_eq, bne_eq_false_iff_eq, beq_iff_eq, beq_eq_false_iff_ne] at a25
          have t := rupperL0_25 s i r n0 ⟨hz, hd, hz, hx, b1, b15, b24, b25, rfl, rfl, rfl, (by (try simp only [Int.toNat_natCast]); omega), hl, rfl, (by rw [List.length_append]; rfl), (by rw [List.length_append]; rfl), (by (try simp only [Int.toNat_natCast]); omega), (by rw [List.length_append]; exact hl2), hin, trivial⟩
          have e : rupU (un s i) = ub 83 ++ ub 83 := by simp only [rupU, b1, b15, b24, b25, Bool.true_and, Bool.and_true, Bool.false_and, Bool.and_false, Bool.or_true, Bool.true_or, Bool.or_false, Bool.false_or, Bool.or_self, Bool.and_self, cond_true, cond_false]
          try simp only [Int.toNat_natCast] at t
          rw [List.append_assoc, show (r ++ ub 83).length + 2 = (r ++ (ub 83 ++ ub 83)).length from by simp only [List.length_append]; rfl] at t
          rw [e]; exact ⟨_, Nat.le_refl _, t⟩
        · have a25 := b25; simp only [ge_iff_le, decide_eq_true_eq, decide_eq_false_iff_not, bne_iff_ne, ne_eq, bne_eq_false_iff_eq, beq_iff_eq, beq_eq_false_iff_ne] at a25
          rcases Bool.eq_false_or_eq_true ((un s i == (255 : Int))) with b26 | b26
          · have a26 := b26; simp only [ge_iff_le, decide_eq_true_eq, decide_eq_false_iff_not, bne_iff_ne, ne_eq, bne_eq_false_iff_eq, beq_iff_eq, beq_eq_false_iff_ne] at a26
            have t := rupperL0_26 s i r n0 ⟨hz, hd, hz, hx, b1, b15, b24, b25, b26, rfl, rfl, rfl, (by (try simp only [Int.toNat_natCast]); omega), hl, hin, trivial⟩
            have e : rupU (un s i) = ub (376 : Int) := by simp only [rupU, b1, b15, b24, b25, b26, Bool.true_and, Bool.and_true, Bool.false_and, Bool.and_false, Bool.or_true, Bool.true_or, Bool.or_false, Bool.false_or, Bool.or_self, Bool.and_self, cond_true, cond_false]
            try simp only [Int.toNat_natCast] at t
            rw [show r.length + 2 = (r ++ ub (376 : Int)).length from by rw [List.length_append]; rfl] at t
            rw [e]; exact ⟨_, Nat.le_refl _, t⟩
          · have a26 := b26; simp only [ge_iff_le, decide_eq_true_eq, decide_eq_false_iff_not, bne_iff_ne, ne_eq, bne_eq_false_iff_eq, beq_iff_eq, beq_eq_false_iff_ne] at a26
            have t := rupperL0_27 s i r n0 ⟨hz, hd, hz, hx, b1, b15, b24, b25, b26, rfl, rfl, rfl, (by (try simp only [Int.toNat_natCast]); omega), hl, hin, trivial⟩
            have e : rupU (un s i) = ub (un s i) := by simp only [rupU, b1, b15, b24, b25, b26, Bool.true_and, Bool.and_true, Bool.false_and, Bool.and_false, Bool.or_true, Bool.true_or, Bool.or_false, Bool.false_or, Bool.or_self, Bool.and_self, cond_true, cond_false]
            try simp only [Int.toNat_natCast] at t
            rw [show r.length + 2 = (r ++ ub (un s i)).length from by rw [List.length_append]; rfl] at t
            rw [e]; exact ⟨_, Nat.le_refl _, t⟩

end Go.Proofs.Us

/- Texts: there and back: UTF-8. -/
set_option maxRecDepth 100000
namespace Go.Proofs.Us
open Go Go.Ev

theorem byteAt_ints (s : ByteArray) (j : Nat) : byteAt s j = (intsOfStr s).getD j 0 := by
  unfold byteAt intsOfStr
  simp only [List.getD_eq_getElem?_getD, List.getElem?_map]
  cases s.data.toList[j]? <;> rfl
theorem ints_byte (s : ByteArray) : ∀ x ∈ intsOfStr s, 0 ≤ x ∧ x ≤ 255 := by
  intro x hx
  obtain ⟨b, _, rfl⟩ := List.mem_map.1 hx
  have := b.toNat_lt
  omega
theorem ints_str {l : List Int} (h : ∀ x ∈ l, 0 ≤ x ∧ x ≤ 255) : intsOfStr (strOfInts l) = l := by
  unfold intsOfStr strOfInts
  simp only [List.toList_toArray, List.map_map]
  conv => rhs; rw [← List.map_id l]
  apply List.map_congr_left
  intro x hx
  obtain ⟨h0, h1⟩ := h x hx
  simp only [Function.comp, UInt8.toNat_ofNat', id]
  omega
theorem str_ints (s : ByteArray) : strOfInts (intsOfStr s) = s := by
  have h : (s.data.toList.map fun b => (b.toNat : Int)).map (fun n => UInt8.ofNat n.toNat) = s.data.toList := by
    rw [List.map_map]
    conv => rhs; rw [← List.map_id s.data.toList]
    apply List.map_congr_left
    intro x _
    simp
  unfold intsOfStr strOfInts
  rw [h]

/-- a code point that may stand -/
def V (p : Int) : Prop := (0 ≤ p ∧ p < 55296) ∨ (57344 ≤ p ∧ p ≤ 1114111)

theorem drop_getD {L : List Int} {i k : Nat} : (L.drop i).getD k 0 = L.getD (i + k) 0 := by
  simp [List.getD_eq_getElem?_getD, List.getElem?_drop]

theorem drop_one {L : List Int} {i : Nat} (h : i < L.length) : L.drop i = L.getD i 0 :: L.drop (i + 1) := by
  rw [List.drop_eq_getElem_cons h]
  congr 1
  simp [List.getD_eq_getElem?_getD, List.getElem?_eq_getElem h]

theorem goes_ints {s : ByteArray} {j : Nat} : goes s j ↔ j < (intsOfStr s).length ∧ 128 ≤ (intsOfStr s).getD j 0 ∧ (intsOfStr s).getD j 0 ≤ 191 := by
  unfold goes
  rw [byteAt_ints, intsOfStr_len]

/-- what is read is what would be written -/
theorem pt_bytes (s : ByteArray) (i : Nat) (hi : i < s.size) (hn : (pt s i).2 ≠ 0) : V (pt s i).1 ∧ (intsOfStr s).drop i = enc8 (pt s i).1 ++ (intsOfStr s).drop (i + (pt s i).2.toNat) := by
  have a0 := byteAt_lt s i
  have hl : i < (intsOfStr s).length := by rw [intsOfStr_len]; exact hi
  have d0 := drop_one hl
  revert hn
  unfold pt
  rw [byteAt_ints s i, byteAt_ints s (i + 1), byteAt_ints s (i + 2), byteAt_ints s (i + 3)] at *
  generalize e0 : (intsOfStr s).getD i 0 = b0 at *
  by_cases c1 : b0 < 128
  · rw [if_pos c1]
    intro _
    refine ⟨.inl ⟨by simp only []; omega, by simp only []; omega⟩, ?_⟩
    unfold enc8
    rw [if_pos c1]
    exact d0
  rw [if_neg c1]
  by_cases c2 : (194 ≤ b0 ∧ b0 < 224) ∧ goes s (i + 1)
  · rw [if_pos c2]
    intro _
    obtain ⟨g1, g2, g3⟩ := goes_ints.1 c2.2
    have d1 := drop_one g1
    generalize (intsOfStr s).getD (i + 1) 0 = b1 at *
    refine ⟨.inl ⟨by simp only []; omega, by simp only []; omega⟩, ?_⟩
    simp only []
    unfold enc8
    rw [if_neg (by omega), if_pos (by omega), d0, d1]
    have x0 : 192 + (b0 % 32 * 64 + b1 % 64) / 64 = b0 := by omega
    have x1 : 128 + (b0 % 32 * 64 + b1 % 64) % 64 = b1 := by omega
    rw [x0, x1]
    rfl
  rw [if_neg c2]
  by_cases c3 : ((224 ≤ b0 ∧ b0 < 240) ∧ goes s (i + 1)) ∧ goes s (i + 2)
  · rw [if_pos c3]
    obtain ⟨g1, g2, g3⟩ := goes_ints.1 c3.1.2
    obtain ⟨g4, g5, g6⟩ := goes_ints.1 c3.2
    have d1 := drop_one g1
    have d2 := drop_one g4
    generalize (intsOfStr s).getD (i + 1) 0 = b1 at *
    generalize (intsOfStr s).getD (i + 2) 0 = b2 at *
    split
    · next h =>
      intro _
      refine ⟨by unfold V; simp only []; omega, ?_⟩
      simp only []
      unfold enc8
      rw [if_neg (by omega), if_neg (by omega), if_pos (by omega), d0, d1, d2]
      have x0 : 224 + (b0 % 16 * 4096 + b1 % 64 * 64 + b2 % 64) / 4096 = b0 := by omega
      have x1 : 128 + (b0 % 16 * 4096 + b1 % 64 * 64 + b2 % 64) / 64 % 64 = b1 := by omega
      have x2 : 128 + (b0 % 16 * 4096 + b1 % 64 * 64 + b2 % 64) % 64 = b2 := by omega
      rw [x0, x1, x2]
      rfl
    · intro h; exact absurd rfl h
  rw [if_neg c3]
  by_cases c4 : (((240 ≤ b0 ∧ b0 < 245) ∧ goes s (i + 1)) ∧ goes s (i + 2)) ∧ goes s (i + 3)
  · rw [if_pos c4]
    obtain ⟨g1, g2, g3⟩ := goes_ints.1 c4.1.1.2
    obtain ⟨g4, g5, g6⟩ := goes_ints.1 c4.1.2
    obtain ⟨g7, g8, g9⟩ := goes_ints.1 c4.2
    have d1 := drop_one g1
    have d2 := drop_one g4
    have d3 := drop_one g7
    generalize (intsOfStr s).getD (i + 1) 0 = b1 at *
    generalize (intsOfStr s).getD (i + 2) 0 = b2 at *
    generalize (intsOfStr s).getD (i + 3) 0 = b3 at *
    split
    · next h =>
      intro _
      refine ⟨.inr ⟨by simp only []; omega, by simp only []; omega⟩, ?_⟩
      simp only []
      unfold enc8
      rw [if_neg (by omega), if_neg (by omega), if_neg (by omega), d0, d1, d2, d3]
      have x0 : 240 + (b0 % 8 * 262144 + b1 % 64 * 4096 + b2 % 64 * 64 + b3 % 64) / 262144 = b0 := by omega
      have x1 : 128 + (b0 % 8 * 262144 + b1 % 64 * 4096 + b2 % 64 * 64 + b3 % 64) / 4096 % 64 = b1 := by omega
      have x2 : 128 + (b0 % 8 * 262144 + b1 % 64 * 4096 + b2 % 64 * 64 + b3 % 64) / 64 % 64 = b2 := by omega
      have x3 : 128 + (b0 % 8 * 262144 + b1 % 64 * 4096 + b2 % 64 * 64 + b3 % 64) % 64 = b3 := by omega
      rw [x0, x1, x2, x3]
      rfl
    · intro h; exact absurd rfl h
  rw [if_neg c4]
  intro h; exact absurd rfl h

/-- what was written is what is read -/
theorem pt_enc8 (s : ByteArray) (i : Nat) {p : Int} {r : List Int} (hv : V p) (hd : (intsOfStr s).drop i = enc8 p ++ r) : i < s.size ∧ pt s i = (p, ((enc8 p).length : Int)) ∧ (intsOfStr s).drop (i + (enc8 p).length) = r := by
  have hlen : (intsOfStr s).length - i = (enc8 p).length + r.length := by
    have := congrArg List.length hd
    simpa using this
  have hpos : 1 ≤ (enc8 p).length := by
    unfold enc8
    split
    · exact Nat.le_refl _
    · split
      · simp
      · split <;> simp
  have hrest : (intsOfStr s).drop (i + (enc8 p).length) = r := by
    have := congrArg (List.drop (enc8 p).length) hd
    simpa [List.drop_drop] using this
  refine ⟨by rw [← intsOfStr_len]; omega, ?_, hrest⟩
  have gt : ∀ k, k < (enc8 p).length → byteAt s (i + k) = (enc8 p).getD k 0 ∧ i + k < s.size := by
    intro k hk
    refine ⟨?_, by rw [← intsOfStr_len]; omega⟩
    rw [byteAt_ints, ← drop_getD, hd]
    simp [List.getD_eq_getElem?_getD, List.getElem?_append_left hk]
  clear hd hrest hlen hpos
  unfold V at hv
  unfold enc8 at *
  by_cases c1 : p < 128
  · simp only [if_pos c1] at gt ⊢
    have g0 := (gt 0 (by simp)).1
    simp at g0
    unfold pt
    rw [if_pos (by omega), g0]
    rfl
  simp only [if_neg c1] at gt ⊢
  by_cases c2 : p < 2048
  · simp only [if_pos c2] at gt ⊢
    have g0 := (gt 0 (by simp)).1
    have g1 := gt 1 (by simp)
    simp at g0 g1
    have go1 : goes s (i + 1) := ⟨g1.2, by omega, by omega⟩
    unfold pt
    rw [if_neg (by omega), if_pos ⟨by omega, go1⟩, g0, g1.1]
    have : (192 + p / 64) % 32 * 64 + (128 + p % 64) % 64 = p := by omega
    rw [this]
    rfl
  simp only [if_neg c2] at gt ⊢
  by_cases c3 : p < 65536
  · simp only [if_pos c3] at gt ⊢
    have g0 := (gt 0 (by simp)).1
    have g1 := gt 1 (by simp)
    have g2 := gt 2 (by simp)
    simp at g0 g1 g2
    have go1 : goes s (i + 1) := ⟨g1.2, by omega, by omega⟩
    have go2 : goes s (i + 2) := ⟨g2.2, by omega, by omega⟩
    have : (224 + p / 4096) % 16 * 4096 + (128 + p / 64 % 64) % 64 * 64 + (128 + p % 64) % 64 = p := by omega
    unfold pt
    rw [if_neg (by omega), if_neg (by omega), if_pos ⟨⟨by omega, go1⟩, go2⟩, g0, g1.1, g2.1, this, if_pos (by omega)]
    rfl
  simp only [if_neg c3] at gt ⊢
  have g0 := (gt 0 (by simp)).1
  have g1 := gt 1 (by simp)
  have g2 := gt 2 (by simp)
  have g3 := gt 3 (by simp)
  simp at g0 g1 g2 g3
  have go1 : goes s (i + 1) := ⟨g1.2, by omega, by omega⟩
  have go2 : goes s (i + 2) := ⟨g2.2, by omega, by omega⟩
  have go3 : goes s (i + 3) := ⟨g3.2, by omega, by omega⟩
  have : (240 + p / 262144) % 8 * 262144 + (128 + p / 4096 % 64) % 64 * 4096 + (128 + p / 64 % 64) % 64 * 64 + (128 + p % 64) % 64 = p := by omega
  unfold pt
  rw [if_neg (by omega), if_neg (by omega), if_neg (by omega), if_pos ⟨⟨⟨by omega, go1⟩, go2⟩, go3⟩, g0, g1.1, g2.1, g3.1, this, if_pos (by omega)]
  rfl
theorem inW {s : ByteArray} (hs : SM s) {i : Nat} (hi : i < ul s) : (0 : Int) ≤ i ∧ (i : Int) < (↑(ul s) : Int) := ⟨by omega, by omega⟩
theorem inRW {s : ByteArray} (hs : SM s) {i : Int} (h0 : -1 ≤ i) (hi : i ≤ 2 * ul s + 2) : inR IntKind.i64 i := by
  have hu : ul s ≤ s.size := by unfold ul; omega
  unfold SM at hs
  simp only [inR]; omega


theorem drop_units {s : ByteArray} {i : Nat} (h : i < ul s) : (intsOfStr s).drop (2 * i) = ub (un s i) ++ (intsOfStr s).drop (2 * (i + 1)) := by
  have hl := intsOfStr_len s
  unfold ul at h
  rw [drop_one (by omega), drop_one (i := 2 * i + 1) (by omega), ← byteAt_ints, ← byteAt_ints]
  have a0 := byteAt_lt s (2 * i)
  have a1 := byteAt_lt s (2 * i + 1)
  unfold ub un
  have e0 : (byteAt s (2 * i) * 256 + byteAt s (2 * i + 1)) / 256 = byteAt s (2 * i) := by omega
  have e1 : (byteAt s (2 * i) * 256 + byteAt s (2 * i + 1)) % 256 = byteAt s (2 * i + 1) := by omega
  rw [e0, e1]
  rfl

end Go.Proofs.Us

/- Texts: capitals, small letters, without white space. -/
set_option maxRecDepth 100000
namespace Go.Proofs.Us
open Go Go.Ev

theorem cat_le {f : Nat → List Int} {k : Nat} (h : ∀ i, (f i).length ≤ k) : ∀ n, (cat f n).length ≤ k * n
  | 0 => Nat.zero_le _
  | n + 1 => by
    rw [cat, List.length_append, Nat.mul_succ]
    have := cat_le h n
    have := h n
    omega
theorem loU_le (u : Int) : (loU u).length ≤ 4 := by show 2 ≤ 4; omega
theorem upU_le (u : Int) : (upU u).length ≤ 4 := by
  unfold upU
  cases (decide (u ≥ 97) && decide (u ≤ 122)) || (decide (u ≥ 224) && (decide (u ≤ 254) && (u != 247)))
  · cases u == 181
    · cases u == 255
      · cases u == 223
        · show 2 ≤ 4; omega
        · show 4 ≤ 4; omega
      · show 2 ≤ 4; omega
    · show 2 ≤ 4; omega
  · show 2 ≤ 4; omega
def lowerL (s : ByteArray) : List Int := cat (fun i => loU (un s i)) (ul s)
def upperL (s : ByteArray) : List Int := cat (fun i => upU (un s i)) (ul s)

theorem lower_c {s : ByteArray} (hs : SM s) : PureTo Tryd.prog 42 [.v (.string s)] (.v (.string (strOfInts (lowerL s)))) := by
  obtain ⟨n1, h1, hl⟩ := count_loop (P := Tryd.prog) (c := loopAt Tryd.f42 0) (S := fun i r n0 => lowerS0 s i r n0) (X := fun r n1 => lowerX0 s r n1) (e := .exit 0) (fun i => loU (un s i)) (ul s) (by simp)
    (fun i r n0 hi hr h0 => lower_step s i r n0 hi hs (by rw [hr]; exact cat_le (fun _ => loU_le _) i))
    (fun n0 => lowerL0_10 s (ul s) _ n0 ⟨by simp, trivial⟩)
  exact lowerF1 s _ n1 ⟨hs.sz, hl, rfl, h1, trivial⟩
theorem rlower_c {s : ByteArray} (hs : SM s) : PureTo Tryd.prog 43 [.v (.string s)] (.v (.string (strOfInts (lowerL s)))) := by
  obtain ⟨n1, h1, hl⟩ := count_loop (P := Tryd.prog) (c := loopAt Tryd.f43 0) (S := fun i r n0 => rlowerS0 s i r n0) (X := fun r n1 => rlowerX0 s r n1) (e := .exit 0) (fun i => loU (un s i)) (ul s) (by simp)
    (fun i r n0 hi hr h0 => rlower_step s i r n0 hi hs (by rw [hr]; exact cat_le (fun _ => loU_le _) i))
    (fun n0 => rlowerL0_10 s (ul s) _ n0 ⟨hs.sz, by simp, trivial⟩)
  exact rlowerF1 s _ n1 ⟨hl, rfl, h1, trivial⟩
theorem upper_c {s : ByteArray} (hs : SM s) : PureTo Tryd.prog 40 [.v (.string s)] (.v (.string (strOfInts (upperL s)))) := by
  obtain ⟨n1, h1, hl⟩ := count_loop (P := Tryd.prog) (c := loopAt Tryd.f40 0) (S := fun i r n0 => upperS0 s i r n0) (X := fun r n1 => upperX0 s r n1) (e := .exit 0) (fun i => upU (un s i)) (ul s) (by simp)
    (fun i r n0 hi hr h0 => upper_step s i r n0 hi hs (by rw [hr]; exact cat_le (fun _ => upU_le _) i))
    (fun n0 => upperL0_28 s (ul s) _ n0 ⟨by simp, trivial⟩)
  exact upperF1 s _ n1 ⟨hs.sz, hl, rfl, h1, trivial⟩
theorem rupper_c {s : ByteArray} (hs : SM s) : PureTo Tryd.prog 41 [.v (.string s)] (.v (.string (strOfInts (upperL s)))) := by
  obtain ⟨n1, h1, hl⟩ := count_loop (P := Tryd.prog) (c := loopAt Tryd.f41 0) (S := fun i r n0 => rupperS0 s i r n0) (X := fun r n1 => rupperX0 s r n1) (e := .exit 0) (fun i => upU (un s i)) (ul s) (by simp)
    (fun i r n0 hi hr h0 => by
      have := rupper_step s i r n0 hi hs (by rw [hr]; exact cat_le (fun _ => upU_le _) i)
      rw [rupU_eq] at this
      exact this)
    (fun n0 => rupperL0_28 s (ul s) _ n0 ⟨hs.sz, by simp, trivial⟩)
  exact rupperF1 s _ n1 ⟨hl, rfl, h1, trivial⟩

def wh (s : ByteArray) (i : Nat) : Bool := space (un s i) || ends (un s i)
def fromK (s : ByteArray) : Nat → Nat → Nat
  | 0, i => i
  | k + 1, i => if wh s i then fromK s k (i + 1) else i
def toK (s : ByteArray) (a : Nat) : Nat → Nat
  | 0 => 0
  | j + 1 => if a < j + 1 ∧ wh s j = true then toK s a j else j + 1
def fromW (s : ByteArray) : Nat := fromK s (ul s) 0
def toW (s : ByteArray) : Nat := toK s (fromW s) (ul s)
def trimS (s : ByteArray) : ByteArray := s.extract (2 * fromW s) (2 * toW s)
theorem fromK_le (s : ByteArray) : ∀ k i, i ≤ fromK s k i ∧ fromK s k i ≤ i + k
  | 0, i => ⟨Nat.le_refl _, Nat.le_refl _⟩
  | k + 1, i => by
    unfold fromK
    have := fromK_le s k (i + 1)
    split <;> omega
theorem toK_le (s : ByteArray) (a : Nat) : ∀ j, a ≤ j → a ≤ toK s a j ∧ toK s a j ≤ j
  | 0, h => ⟨h, Nat.le_refl _⟩
  | j + 1, h => by
    unfold toK
    split
    · next hc => have := toK_le s a j (by omega); omega
    · omega

theorem trim_l0 {s : ByteArray} (hs : SM s) : ∀ k i, i + k = ul s → LoopTo Tryd.prog (loopAt Tryd.f44 0) (trimS0 s i) (.exit 0) (trimX0 s (fromK s k i))
  | 0, i, h => .done (by simp) (trimL0_4 s i ⟨by simp; omega, trivial⟩)
  | k + 1, i, h => by
    have hi : i < ul s := by omega
    have hd : decide ((i : Int) < (↑(ul s) : Int)) = true := by simpa using hi
    have hin : inR IntKind.i64 ((i : Int) + (1 : Int)) := inRW hs (by omega) (by omega)
    unfold fromK
    rcases Bool.eq_false_or_eq_true (space (un s i)) with b1 | b1
    · rw [if_pos (by simp [wh, b1])]
      exact .step (trimL0_1 s i ⟨hd, hs.sz, inW hs hi, b1, hin, trivial⟩) (trim_l0 hs k (i + 1) (by omega))
    · rcases Bool.eq_false_or_eq_true (ends (un s i)) with b2 | b2
      · rw [if_pos (by simp [wh, b2])]
        exact .step (trimL0_2 s i ⟨hd, hs.sz, inW hs hi, b1, hs.sz, inW hs hi, b2, hin, trivial⟩) (trim_l0 hs k (i + 1) (by omega))
      · rw [if_neg (by simp [wh, b1, b2])]
        exact .done (by simp) (trimL0_3 s i ⟨hd, hs.sz, inW hs hi, b1, hs.sz, inW hs hi, b2, trivial⟩)

theorem rtrim_l0 {s : ByteArray} (hs : SM s) : ∀ k i, i + k = ul s → LoopTo Tryd.prog (loopAt Tryd.f45 0) (rtrimS0 s i) (.exit 0) (rtrimX0 s (fromK s k i))
  | 0, i, h => .done (by simp) (rtrimL0_4 s i ⟨by simp; omega, trivial⟩)
  | k + 1, i, h => by
    have hi : i < ul s := by omega
    have hd : decide ((i : Int) < (↑(ul s) : Int)) = true := by simpa using hi
    have hin : inR IntKind.i64 ((i : Int) + (1 : Int)) := inRW hs (by omega) (by omega)
    unfold fromK
    rcases Bool.eq_false_or_eq_true (space (un s i)) with b1 | b1
    · rw [if_pos (by simp [wh, b1])]
      exact .step (rtrimL0_1 s i ⟨hd, hs.sz, inW hs hi, b1, hin, trivial⟩) (rtrim_l0 hs k (i + 1) (by omega))
    · rcases Bool.eq_false_or_eq_true (ends (un s i)) with b2 | b2
      · rw [if_pos (by simp [wh, b2])]
        exact .step (rtrimL0_2 s i ⟨hd, hs.sz, inW hs hi, b1, hs.sz, inW hs hi, b2, hin, trivial⟩) (rtrim_l0 hs k (i + 1) (by omega))
      · rw [if_neg (by simp [wh, b1, b2])]
        exact .done (by simp) (rtrimL0_3 s i ⟨hd, hs.sz, inW hs hi, b1, hs.sz, inW hs hi, b2, trivial⟩)

theorem pred_cast (j : Nat) : ((j + 1 : Nat) : Int) - 1 = (j : Int) := by omega

theorem trim_l1 {s : ByteArray} (hs : SM s) (a : Nat) : ∀ j, a ≤ j → j ≤ ul s → LoopTo Tryd.prog (loopAt Tryd.f44 1) (trimS1 s a j) (.exit 2) (trimX1 s a (toK s a j))
  | 0, h, _ => .done (by simp) (trimL1_4 s a 0 ⟨by simp, trivial⟩)
  | j + 1, h, hj => by
    have hi : j < ul s := by omega
    have hin : inR IntKind.i64 ((j : Int)) := inRW hs (by omega) (by omega)
    unfold toK
    by_cases ha : a < j + 1
    · have hd : decide (((j + 1 : Nat) : Int) > (a : Int)) = true := by simp; omega
      have p1 := trimL1_1 s a ((j + 1 : Nat) : Int)
      have p2 := trimL1_2 s a ((j + 1 : Nat) : Int)
      have p3 := trimL1_3 s a ((j + 1 : Nat) : Int)
      rw [pred_cast] at p1 p2 p3
      rcases Bool.eq_false_or_eq_true (space (un s j)) with b1 | b1
      · rw [if_pos ⟨ha, by simp [wh, b1]⟩]
        exact .step (p1 ⟨hd, hin, hs.sz, inW hs hi, b1, hin, trivial⟩) (trim_l1 hs a j (by omega) (by omega))
      · rcases Bool.eq_false_or_eq_true (ends (un s j)) with b2 | b2
        · rw [if_pos ⟨ha, by simp [wh, b2]⟩]
          exact .step (p2 ⟨hd, hin, hs.sz, inW hs hi, b1, hin, hs.sz, inW hs hi, b2, hin, trivial⟩) (trim_l1 hs a j (by omega) (by omega))
        · rw [if_neg (by simp [wh, b1, b2])]
          exact .done (by simp) (p3 ⟨hd, hin, hs.sz, inW hs hi, b1, hin, hs.sz, inW hs hi, b2, trivial⟩)
    · rw [if_neg (by omega)]
      exact .done (by simp) (trimL1_4 s a ((j + 1 : Nat) : Int) ⟨by simp; omega, trivial⟩)

theorem rtrim_l1 {s : ByteArray} (hs : SM s) (a : Nat) : ∀ j, a ≤ j → j ≤ ul s → LoopTo Tryd.prog (loopAt Tryd.f45 1) (rtrimS1 s a j) (.exit 2) (rtrimX1 s a (toK s a j))
  | 0, h, _ => .done (by simp) (rtrimL1_4 s a 0 ⟨by simp, trivial⟩)
  | j + 1, h, hj => by
    have hi : j < ul s := by omega
    have hin : inR IntKind.i64 ((j : Int)) := inRW hs (by omega) (by omega)
    unfold toK
    by_cases ha : a < j + 1
    · have hd : decide (((j + 1 : Nat) : Int) > (a : Int)) = true := by simp; omega
      have p1 := rtrimL1_1 s a ((j + 1 : Nat) : Int)
      have p2 := rtrimL1_2 s a ((j + 1 : Nat) : Int)
      have p3 := rtrimL1_3 s a ((j + 1 : Nat) : Int)
      rw [pred_cast] at p1 p2 p3
      rcases Bool.eq_false_or_eq_true (space (un s j)) with b1 | b1
      · rw [if_pos ⟨ha, by simp [wh, b1]⟩]
        exact .step (p1 ⟨hd, hin, hs.sz, inW hs hi, b1, hin, trivial⟩) (rtrim_l1 hs a j (by omega) (by omega))
      · rcases Bool.eq_false_or_eq_true (ends (un s j)) with b2 | b2
        · rw [if_pos ⟨ha, by simp [wh, b2]⟩]
          exact .step (p2 ⟨hd, hin, hs.sz, inW hs hi, b1, hin, hs.sz, inW hs hi, b2, hin, trivial⟩) (rtrim_l1 hs a j (by omega) (by omega))
        · rw [if_neg (by simp [wh, b1, b2])]
          exact .done (by simp) (p3 ⟨hd, hin, hs.sz, inW hs hi, b1, hin, hs.sz, inW hs hi, b2, trivial⟩)
    · rw [if_neg (by omega)]
      exact .done (by simp) (rtrimL1_4 s a ((j + 1 : Nat) : Int) ⟨by simp; omega, trivial⟩)

theorem slice_in {s : ByteArray} {a b : Nat} (hab : a ≤ b) (hb : b ≤ ul s) : slice s a b = s.extract (2 * a) (2 * b) := by
  have e2 : (if (↑(ul s) : Int) < (b : Int) then (↑(ul s) : Int) else (b : Int)) = b := by rw [if_neg (by omega)]
  have e1 : (if (0 : Int) > (a : Int) then (0 : Int) else (a : Int)) = a := by rw [if_neg (by omega)]
  unfold slice
  rw [e1, e2]
  have t2 : ((2 : Int) * (b : Int)).toNat = 2 * b := by omega
  have t1 : ((2 : Int) * (a : Int)).toNat = 2 * a := by omega
  rw [t1, t2]
  by_cases h : a = b
  · subst h
    rw [show (!decide ((a : Int) ≤ (a : Int))) = false from by simp, cond_false]
    apply ByteArray.ext
    simp [ByteArray.data_extract]
  · rw [show (!decide ((b : Int) ≤ (a : Int))) = true from by simp; omega, cond_true]

theorem wbounds (s : ByteArray) : fromW s ≤ toW s ∧ toW s ≤ ul s := by
  have h1 := fromK_le s (ul s) 0
  have h2 := toK_le s (fromW s) (ul s) (by unfold fromW; omega)
  exact h2

theorem trim_c {s : ByteArray} (hs : SM s) : PureTo Tryd.prog 44 [.v (.string s)] (.v (.string (trimS s))) := by
  have hw := wbounds s
  have hu : 2 * ul s ≤ s.size := by unfold ul; omega
  have h := trimF1 s (fromW s) (toW s) ⟨hs.sz, trim_l0 hs (ul s) 0 (by omega), trim_l1 hs (fromW s) (ul s) (by omega) (Nat.le_refl _), inRW hs (by omega) (by omega), inRW hs (by omega) (by omega), ⟨by omega, by omega⟩, ⟨by omega, by omega⟩, trivial⟩
  rw [show ((2 : Int) * (toW s : Int)).toNat = 2 * toW s from by omega, show ((2 : Int) * (fromW s : Int)).toNat = 2 * fromW s from by omega] at h
  exact h
theorem rtrim_c {s : ByteArray} (hs : SM s) : PureTo Tryd.prog 45 [.v (.string s)] (.v (.string (trimS s))) := by
  have hw := wbounds s
  have h := rtrimF1 s (fromW s) (toW s) ⟨hs.sz, rtrim_l0 hs (ul s) 0 (by omega), rtrim_l1 hs (fromW s) (ul s) (by omega) (Nat.le_refl _), hs.sz, trivial⟩
  rw [slice_in hw.1 hw.2] at h
  exact h

def SGA : SGT := (40, .p (sigS fun s => (.v (.string (strOfInts (upperL s))), [SM s]))) :: (41, .p (sigS fun s => (.v (.string (strOfInts (upperL s))), [SM s]))) ::
  (42, .p (sigS fun s => (.v (.string (strOfInts (lowerL s))), [SM s]))) :: (43, .p (sigS fun s => (.v (.string (strOfInts (lowerL s))), [SM s]))) ::
  (44, .p (sigS fun s => (.v (.string (trimS s)), [SM s]))) :: (45, .p (sigS fun s => (.v (.string (trimS s)), [SM s]))) :: SG9
theorem sokA : SigsOK Tryd.prog SGA :=
  sigs_cons (sigs_cons (sigs_cons (sigs_cons (sigs_cons (sigs_cons sok9 (sigS_ok fun s h => rtrim_c h.1)) (sigS_ok fun s h => trim_c h.1)) (sigS_ok fun s h => rlower_c h.1)) (sigS_ok fun s h => lower_c h.1)) (sigS_ok fun s h => rupper_c h.1)) (sigS_ok fun s h => upper_c h.1)
end Go.Proofs.Us

/- Texts: walks, written by the tool. -/
set_option maxRecDepth 100000
namespace Go.Proofs.Us
open Go Go.Ev
def rcmpS0 (s t : ByteArray) (x0 : Int) : AS := { n := 42, fr := [(0, AV.v (.string s)), (1, AV.v (.string t)), (5, AV.v (.int .i64 x0))], hp := [], nx := 0 }
def rcmpX0 (s t : ByteArray)  : AS := { n := 42, fr := [(0, AV.v (.string s)), (1, AV.v (.string t))], hp := [], nx := 0 }
def rcmpX0_1 (s t : ByteArray) (x1 : Int) : AS := { n := 42, fr := [(4, AV.v (.int .i64 x1))], hp := [], nx := 0 }
-- 5 paths
theorem rcmpL0_1 (s t : ByteArray) (x0 : Int) (h : AllP [SZ s, decide (x0 < (↑(ul s) : Int)) = true, SZ t, decide (x0 < (↑(ul t) : Int)) = true, SZ s, (0 : Int) ≤ x0 ∧ x0 < (↑(ul s) : Int), SZ t, (0 : Int) ≤ x0 ∧ x0 < (↑(ul t) : Int), decide (un s x0.toNat < un t x0.toNat) = true]) : To Tryd.prog (loopAt Tryd.f51 0) ({ n := 42, fr := [(0, AV.v (.string s)), (1, AV.v (.string t)), (5, AV.v (.int .i64 x0))], hp := [], nx := 0 }) (Exit.ret) { n := 42, fr := [(4, AV.v (.int .i64 (-1 : Int)))], hp := [], nx := 0 } :=
  evW_to hm sok8 (hs := [CHint.ops 2 [(3, Hint.b true), (8, Hint.b true)], CHint.ops 6 [(2, Hint.b true)]]) (slots := [4]) (keys := []) (nx := 0) (c := _) (by kernel_rfl) h
theorem rcmpL0_2 (s t : ByteArray) (x0 : Int) (h : AllP [SZ s, decide (x0 < (↑(ul s) : Int)) = true, SZ t, decide (x0 < (↑(ul t) : Int)) = true, SZ s, (0 : Int) ≤ x0 ∧ x0 < (↑(ul s) : Int), SZ t, (0 : Int) ≤ x0 ∧ x0 < (↑(ul t) : Int), decide (un s x0.toNat < un t x0.toNat) = false, decide (un s x0.toNat > un t x0.toNat) = true]) : To Tryd.prog (loopAt Tryd.f51 0) ({ n := 42, fr := [(0, AV.v (.string s)), (1, AV.v (.string t)), (5, AV.v (.int .i64 x0))], hp := [], nx := 0 }) (Exit.ret) { n := 42, fr := [(4, AV.v (.int .i64 (1 : Int)))], hp := [], nx := 0 } :=
  evW_to hm sok8 (hs := [CHint.ops 2 [(3, Hint.b true), (8, Hint.b true)], CHint.ops 6 [(2, Hint.b false)], CHint.ops 8 [(2, Hint.b true)]]) (slots := [4]) (keys := []) (nx := 0) (c := _) (by kernel_rfl) h
theorem rcmpL0_3 (s t : ByteArray) (x0 : Int) (h : AllP [SZ s, decide (x0 < (↑(ul s) : Int)) = true, SZ t, decide (x0 < (↑(ul t) : Int)) = true, SZ s, (0 : Int) ≤ x0 ∧ x0 < (↑(ul s) : Int), SZ t, (0 : Int) ≤ x0 ∧ x0 < (↑(ul t) : Int), decide (un s x0.toNat < un t x0.toNat) = false, decide (un s x0.toNat > un t x0.toNat) = false, inR IntKind.i64 (x0 + (1 : Int))]) : To Tryd.prog (loopAt Tryd.f51 0) ({ n := 42, fr := [(0, AV.v (.string s)), (1, AV.v (.string t)), (5, AV.v (.int .i64 x0))], hp := [], nx := 0 }) (.normal) { n := 42, fr := [(0, AV.v (.string s)), (1, AV.v (.string t)), (5, AV.v (.int .i64 (x0 + (1 : Int))))], hp := [], nx := 0 } :=
  evW_to hm sok8 (hs := [CHint.ops 2 [(3, Hint.b true), (8, Hint.b true)], CHint.ops 6 [(2, Hint.b false)], CHint.ops 8 [(2, Hint.b false)]]) (slots := [0, 1, 5]) (keys := []) (nx := 0) (c := _) (by kernel_rfl) h
theorem rcmpL0_4 (s t : ByteArray) (x0 : Int) (h : AllP [SZ s, decide (x0 < (↑(ul s) : Int)) = true, SZ t, decide (x0 < (↑(ul t) : Int)) = false]) : To Tryd.prog (loopAt Tryd.f51 0) ({ n := 42, fr := [(0, AV.v (.string s)), (1, AV.v (.string t)), (5, AV.v (.int .i64 x0))], hp := [], nx := 0 }) (Exit.exit 0) { n := 42, fr := [(0, AV.v (.string s)), (1, AV.v (.string t))], hp := [], nx := 0 } :=
  evW_to hm sok8 (hs := [CHint.ops 2 [(3, Hint.b true), (8, Hint.b false)]]) (slots := [0, 1]) (keys := []) (nx := 0) (c := _) (by kernel_rfl) h
theorem rcmpL0_5 (s t : ByteArray) (x0 : Int) (h : AllP [SZ s, decide (x0 < (↑(ul s) : Int)) = false]) : To Tryd.prog (loopAt Tryd.f51 0) ({ n := 42, fr := [(0, AV.v (.string s)), (1, AV.v (.string t)), (5, AV.v (.int .i64 x0))], hp := [], nx := 0 }) (Exit.exit 0) { n := 42, fr := [(0, AV.v (.string s)), (1, AV.v (.string t))], hp := [], nx := 0 } :=
  evW_to hm sok8 (hs := [CHint.ops 2 [(3, Hint.b false)]]) (slots := [0, 1]) (keys := []) (nx := 0) (c := _) (by kernel_rfl) h
-- 4 paths
theorem rcmpF1 (s t : ByteArray) (x1 : Int) (h : AllP [LoopTo Tryd.prog (loopAt Tryd.f51 0) { n := 42, fr := [(0, AV.v (.string s)), (1, AV.v (.string t)), (5, AV.v (.int .i64 (0 : Int)))], hp := [], nx := 0 } (Exit.exit 0) { n := 42, fr := [(0, AV.v (.string s)), (1, AV.v (.string t))], hp := [], nx := 0 }, SZ s, SZ t, decide ((↑(ul s) : Int) < (↑(ul t) : Int)) = true]) : PureTo Tryd.prog 51 [.v (.string s), .v (.string t)] (AV.v (.int .i64 (-1 : Int))) :=
  evFn_pure hm sok8 (fn := Tryd.f51) rfl rfl (ti := false) (hs := [CHint.loop [0, 1, 5] [] 0 (Exit.exit 0) { n := 42, fr := [(0, AV.v (.string s)), (1, AV.v (.string t))], hp := [], nx := 0 }, CHint.ops 10 [(4, Hint.b true)]]) (c := _) (by kernel_rfl) h
theorem rcmpF2 (s t : ByteArray) (x1 : Int) (h : AllP [LoopTo Tryd.prog (loopAt Tryd.f51 0) { n := 42, fr := [(0, AV.v (.string s)), (1, AV.v (.string t)), (5, AV.v (.int .i64 (0 : Int)))], hp := [], nx := 0 } (Exit.exit 0) { n := 42, fr := [(0, AV.v (.string s)), (1, AV.v (.string t))], hp := [], nx := 0 }, SZ s, SZ t, decide ((↑(ul s) : Int) < (↑(ul t) : Int)) = false, SZ s, SZ t, decide ((↑(ul s) : Int) > (↑(ul t) : Int)) = true]) : PureTo Tryd.prog 51 [.v (.string s), .v (.string t)] (AV.v (.int .i64 (1 : Int))) :=
  evFn_pure hm sok8 (fn := Tryd.f51) rfl rfl (ti := false) (hs := [CHint.loop [0, 1, 5] [] 0 (Exit.exit 0) { n := 42, fr := [(0, AV.v (.string s)), (1, AV.v (.string t))], hp := [], nx := 0 }, CHint.ops 10 [(4, Hint.b false)], CHint.ops 12 [(4, Hint.b true)]]) (c := _) (by kernel_rfl) h
theorem rcmpF3 (s t : ByteArray) (x1 : Int) (h : AllP [LoopTo Tryd.prog (loopAt Tryd.f51 0) { n := 42, fr := [(0, AV.v (.string s)), (1, AV.v (.string t)), (5, AV.v (.int .i64 (0 : Int)))], hp := [], nx := 0 } (Exit.exit 0) { n := 42, fr := [(0, AV.v (.string s)), (1, AV.v (.string t))], hp := [], nx := 0 }, SZ s, SZ t, decide ((↑(ul s) : Int) < (↑(ul t) : Int)) = false, SZ s, SZ t, decide ((↑(ul s) : Int) > (↑(ul t) : Int)) = false]) : PureTo Tryd.prog 51 [.v (.string s), .v (.string t)] (AV.v (.int .i64 (0 : Int))) :=
  evFn_pure hm sok8 (fn := Tryd.f51) rfl rfl (ti := false) (hs := [CHint.loop [0, 1, 5] [] 0 (Exit.exit 0) { n := 42, fr := [(0, AV.v (.string s)), (1, AV.v (.string t))], hp := [], nx := 0 }, CHint.ops 10 [(4, Hint.b false)], CHint.ops 12 [(4, Hint.b false)]]) (c := _) (by kernel_rfl) h
theorem rcmpF4 (s t : ByteArray) (x1 : Int) (h : AllP [LoopTo Tryd.prog (loopAt Tryd.f51 0) { n := 42, fr := [(0, AV.v (.string s)), (1, AV.v (.string t)), (5, AV.v (.int .i64 (0 : Int)))], hp := [], nx := 0 } Exit.ret { n := 42, fr := [(4, AV.v (.int .i64 x1))], hp := [], nx := 0 }]) : PureTo Tryd.prog 51 [.v (.string s), .v (.string t)] (AV.v (.int .i64 x1)) :=
  evFn_pure hm sok8 (fn := Tryd.f51) rfl rfl (ti := false) (hs := [CHint.loop [0, 1, 5] [] 0 Exit.ret { n := 42, fr := [(4, AV.v (.int .i64 x1))], hp := [], nx := 0 }]) (c := _) (by kernel_rfl) h
end Go.Proofs.Us

/- Texts: does a text stand at a place? The order of bytes. -/
set_option maxRecDepth 100000
namespace Go.Proofs.Us
open Go Go.Ev

theorem stands_c {s t : ByteArray} {i : Int} (hs : SM s) (ht : SM t) (h0 : 0 ≤ i) (h1 : i ≤ 8589934592) : PureTo Tryd.prog 74 [.v (.string s), .v (.string t), .v (.int .i64 i)] (.v (.bool (stands s t i))) := by
  have hz := hs.sz
  have hz2 := ht.sz
  have hu : 2 * ul s ≤ s.size := by unfold ul; omega
  have hu2 : 2 * ul t ≤ t.size := by unfold ul; omega
  unfold SM at hs ht
  refine stands_pure s t i ⟨fun h => ?_, fun _ => ⟨hz2, by simp only [inR]; omega, hz, trivial⟩, trivial⟩
  have h := of_decide_eq_true h
  exact ⟨hz2, by simp only [inR]; omega, hz, by simp only [inR]; omega, by simp only [inR]; omega, hz2, by simp only [inR]; omega, by simp only [inR]; omega, ⟨by omega, by omega⟩, ⟨by omega, by omega⟩, hz2, by simp only [inR]; omega, ⟨by omega, by omega⟩, trivial⟩

def SGB : SGT := (74, .p (sigSSI fun s t i => (.v (.bool (stands s t i)), [SM s, SM t, 0 ≤ i, i ≤ 8589934592]))) :: SG8
theorem sokB : SigsOK Tryd.prog SGB := sigs_cons sok8 (sigSSI_ok fun s t i h => stands_c h.1 h.2.1 h.2.2.1 h.2.2.2.1)

def lenCmp (s t : ByteArray) : Int := if ul s < ul t then -1 else if ul t < ul s then 1 else 0
def cmpG (s t : ByteArray) : Nat → Nat → Int
  | 0, _ => lenCmp s t
  | f + 1, i => if i < ul s ∧ i < ul t then (if un s i < un t i then -1 else if un t i < un s i then 1 else cmpG s t f (i + 1)) else lenCmp s t
/-- the order of two texts -/
def cmpS (s t : ByteArray) : Int := cmpG s t (ul s) 0

theorem rcmp_loop (s t : ByteArray) (hs : SM s) (ht : SM t) : ∀ f i, ul s ≤ i + f →
    LoopTo Tryd.prog (loopAt Tryd.f51 0) (rcmpS0 s t (i : Nat)) .ret (rcmpX0_1 s t (cmpG s t f i)) ∨ (LoopTo Tryd.prog (loopAt Tryd.f51 0) (rcmpS0 s t (i : Nat)) (.exit 0) (rcmpX0 s t) ∧ cmpG s t f i = lenCmp s t)
  | 0, i, hf => .inr ⟨.done (by simp) (rcmpL0_5 s t i ⟨hs.sz, by simp; omega, trivial⟩), rfl⟩
  | f + 1, i, hf => by
    unfold cmpG
    by_cases c1 : i < ul s
    · have d1 : decide ((i : Int) < (↑(ul s) : Int)) = true := by simpa using c1
      by_cases c2 : i < ul t
      · have d2 : decide ((i : Int) < (↑(ul t) : Int)) = true := by simpa using c2
        rw [if_pos ⟨c1, c2⟩]
        by_cases c3 : un s i < un t i
        · rw [if_pos c3]
          exact .inl (.done (by simp) (rcmpL0_1 s t i ⟨hs.sz, d1, ht.sz, d2, hs.sz, inW hs c1, ht.sz, inW ht c2, decide_eq_true c3, trivial⟩))
        · rw [if_neg c3]
          by_cases c4 : un t i < un s i
          · rw [if_pos c4]
            exact .inl (.done (by simp) (rcmpL0_2 s t i ⟨hs.sz, d1, ht.sz, d2, hs.sz, inW hs c1, ht.sz, inW ht c2, decide_eq_false c3, decide_eq_true c4, trivial⟩))
          · rw [if_neg c4]
            have st := rcmpL0_3 s t i ⟨hs.sz, d1, ht.sz, d2, hs.sz, inW hs c1, ht.sz, inW ht c2, decide_eq_false c3, decide_eq_false c4, inRW hs (by omega) (by omega), trivial⟩
            rcases rcmp_loop s t hs ht f (i + 1) (by omega) with h | ⟨h, e⟩
            · exact .inl (.step st h)
            · exact .inr ⟨.step st h, e⟩
      · rw [if_neg (by omega)]
        exact .inr ⟨.done (by simp) (rcmpL0_4 s t i ⟨hs.sz, d1, ht.sz, by simp; omega, trivial⟩), rfl⟩
    · rw [if_neg (by omega)]
      exact .inr ⟨.done (by simp) (rcmpL0_5 s t i ⟨hs.sz, by simp; omega, trivial⟩), rfl⟩

theorem rcmp_c {s t : ByteArray} (hs : SM s) (ht : SM t) : PureTo Tryd.prog 51 [.v (.string s), .v (.string t)] (.v (.int .i64 (cmpS s t))) := by
  unfold cmpS
  rcases rcmp_loop s t hs ht (ul s) 0 (by omega) with h | ⟨h, e⟩
  · exact rcmpF4 (s := s) (t := t) (x1 := cmpG s t (ul s) 0) (h := ⟨h, trivial⟩)
  · rw [e]
    unfold lenCmp
    by_cases c1 : ul s < ul t
    · rw [if_pos c1]
      exact rcmpF1 (s := s) (t := t) (x1 := 0) (h := ⟨h, hs.sz, ht.sz, by simpa using c1, trivial⟩)
    · rw [if_neg c1]
      by_cases c2 : ul t < ul s
      · rw [if_pos c2]
        exact rcmpF2 (s := s) (t := t) (x1 := 0) (h := ⟨h, hs.sz, ht.sz, by simp; omega, hs.sz, ht.sz, by simpa using c2, trivial⟩)
      · rw [if_neg c2]
        exact rcmpF3 (s := s) (t := t) (x1 := 0) (h := ⟨h, hs.sz, ht.sz, by simp; omega, hs.sz, ht.sz, by simp; omega, trivial⟩)

/-- the order of bytes, as numbers -/
def ltI : List Int → List Int → Bool
  | _, [] => false
  | [], _ :: _ => true
  | x :: xs, y :: ys => decide (x < y) || (x == y && ltI xs ys)
theorem bytesLess_ints : ∀ x y : List UInt8, Op.bytesLess x y = ltI (x.map fun b => (b.toNat : Int)) (y.map fun b => (b.toNat : Int))
  | [], [] => rfl
  | _ :: _, [] => rfl
  | [], _ :: _ => rfl
  | a :: x, b :: y => by
    have h := bytesLess_ints x y
    show (decide (a < b) || (a == b && Op.bytesLess x y)) = (decide ((a.toNat : Int) < (b.toNat : Int)) || (((a.toNat : Int) == (b.toNat : Int)) && ltI _ _))
    rw [h]
    congr 1
    · rw [decide_eq_decide, UInt8.lt_iff_toNat_lt]; omega
    · congr 1
      rw [Bool.eq_iff_iff]
      simp only [beq_iff_eq]
      constructor
      · rintro rfl; rfl
      · intro h; exact UInt8.toNat_inj.1 (by omega)
def cmpI (a b : List Int) : Int := if ltI a b = true then -1 else if a = b then 0 else 1
theorem cmpI_ub {u v : Int} (hu : 0 ≤ u ∧ u ≤ 65535) (hv : 0 ≤ v ∧ v ≤ 65535) (x y : List Int) : cmpI (ub u ++ x) (ub v ++ y) = if u < v then -1 else if v < u then 1 else cmpI x y := by
  unfold cmpI ub
  simp only [List.cons_append, List.nil_append, ltI, Bool.or_eq_true, Bool.and_eq_true, decide_eq_true_eq, beq_iff_eq, List.cons.injEq]
  by_cases c1 : u < v
  · rw [if_pos c1, if_pos (by omega)]
  · rw [if_neg c1]
    by_cases c2 : v < u
    · rw [if_pos c2, if_neg (by omega), if_neg (by omega)]
    · rw [if_neg c2]
      have : u = v := by omega
      subst this
      simp
theorem evn_ints (s : ByteArray) : intsOfStr (evn s) = (intsOfStr s).take (2 * ul s) := by
  unfold evn intsOfStr
  simp [ByteArray.data_extract, Array.toList_extract, List.map_take]
theorem evn_units {s : ByteArray} {i : Nat} (h : i < ul s) : (intsOfStr (evn s)).drop (2 * i) = ub (un s i) ++ (intsOfStr (evn s)).drop (2 * (i + 1)) := by
  have e := drop_units h
  have hl := intsOfStr_len s
  have hu : 2 * ul s ≤ s.size := by unfold ul; omega
  rw [evn_ints, List.drop_take, List.drop_take, e, show 2 * ul s - 2 * i = (2 * ul s - 2 * (i + 1)) + 2 from by omega]
  rfl
theorem evn_end {s : ByteArray} {i : Nat} (h : ul s ≤ i) : (intsOfStr (evn s)).drop (2 * i) = [] := by
  rw [evn_ints, List.drop_take, show 2 * ul s - 2 * i = 0 from by omega, List.take_zero]
theorem cmpG_eq (s t : ByteArray) : ∀ f i, ul s ≤ i + f → i ≤ ul s → i ≤ ul t → cmpG s t f i = cmpI ((intsOfStr (evn s)).drop (2 * i)) ((intsOfStr (evn t)).drop (2 * i)) := by
  have fin : ∀ i, i ≤ ul s → i ≤ ul t → ¬ (i < ul s ∧ i < ul t) → lenCmp s t = cmpI ((intsOfStr (evn s)).drop (2 * i)) ((intsOfStr (evn t)).drop (2 * i)) := by
    intro i h1 h2 h3
    unfold lenCmp
    by_cases c1 : i < ul s
    · rw [evn_units c1, evn_end (s := t) (by omega), if_neg (by omega), if_pos (by omega)]
      rfl
    · rw [evn_end (s := s) (by omega)]
      by_cases c2 : i < ul t
      · rw [evn_units c2, if_pos (by omega)]
        rfl
      · rw [evn_end (s := t) (by omega), if_neg (by omega), if_neg (by omega)]
        rfl
  intro f
  induction f with
  | zero => intro i h h1 h2; exact fin i h1 h2 (by omega)
  | succ f ih =>
    intro i h h1 h2
    unfold cmpG
    split
    · next hc =>
      rw [evn_units hc.1, evn_units hc.2, cmpI_ub (un_lt s i) (un_lt t i), ih (i + 1) (by omega) (by omega) (by omega)]
    · next hc => exact fin i h1 h2 hc
theorem cmpS_eq (s t : ByteArray) : cmpS s t = cmpI (intsOfStr (evn s)) (intsOfStr (evn t)) := by
  have := cmpG_eq s t (ul s) 0 (by omega) (by omega) (by omega)
  unfold cmpS
  simpa using this
end Go.Proofs.Us

/- Texts: walks, written by the tool. -/
set_option maxRecDepth 100000
namespace Go.Proofs.Us
open Go Go.Ev
def rlastS0 (s t : ByteArray) (i : Int) (x0 : Int) : AS := { n := 24, fr := [(0, AV.v (.string s)), (1, AV.v (.string t)), (7, AV.v (.int .i64 x0))], hp := [], nx := 0 }
def rlastX0 (s t : ByteArray) (i : Int)  : AS := { n := 24, fr := [], hp := [], nx := 0 }
def rlastX0_1 (s t : ByteArray) (i : Int) (x1 : Int) : AS := { n := 24, fr := [(6, AV.v (.int .i64 x1))], hp := [], nx := 0 }
def lastS0 (s t : ByteArray) (i : Int) (x0 : Int) : AS := { n := 35, fr := [(0, AV.v (.string (evn s))), (1, AV.v (.string (evn t))), (7, AV.v (.int .i64 x0))], hp := [], nx := 0 }
def lastX0 (s t : ByteArray) (i : Int)  : AS := { n := 35, fr := [], hp := [], nx := 0 }
def lastX0_1 (s t : ByteArray) (i : Int) (x1 : Int) : AS := { n := 35, fr := [(6, AV.v (.int .i64 x1))], hp := [], nx := 0 }
def rindexS0 (s t : ByteArray) (i : Int) (x0 : Int) : AS := { n := 22, fr := [(0, AV.v (.string s)), (1, AV.v (.string t)), (7, AV.v (.int .i64 x0))], hp := [], nx := 0 }
def rindexX0 (s t : ByteArray) (i : Int)  : AS := { n := 22, fr := [], hp := [], nx := 0 }
def rindexX0_1 (s t : ByteArray) (i : Int) (x1 : Int) : AS := { n := 22, fr := [(6, AV.v (.int .i64 x1))], hp := [], nx := 0 }
theorem isn_ev (s : ByteArray) (h : AllP []) : PureTo Tryd.prog 83 [.v (.string s)] (AV.v (.bool !s.toList == s.toList)) :=
  evFnM_pure hm sokB (fn := Tryd.f83) rfl rfl (ti := false) (m := Mode.same) (hs := []) (c := _) (by kernel_rfl) (by kernel_rfl) h
def isn (s : ByteArray) : Bool := !s.toList == s.toList
theorem isn_pure (s : ByteArray) : PureTo Tryd.prog 83 [.v (.string s)] (AV.v (.bool (isn s))) := isn_ev s trivial
-- 3 paths
theorem rlastL0_1 (s t : ByteArray) (i : Int) (x0 : Int) (h : AllP [decide (x0 ≥ (0 : Int)) = true, stands s t x0 = true, SM s, SM t, (0 : Int) ≤ x0, x0 ≤ (8589934592 : Int)]) : To Tryd.prog (loopAt Tryd.f49 0) ({ n := 24, fr := [(0, AV.v (.string s)), (1, AV.v (.string t)), (7, AV.v (.int .i64 x0))], hp := [], nx := 0 }) (Exit.ret) { n := 24, fr := [(6, AV.v (.int .i64 x0))], hp := [], nx := 0 } :=
  evW_to hm sokB (hs := [CHint.ops 4 [(1, Hint.b true)], CHint.ops 6 [(3, Hint.b true)]]) (slots := [6]) (keys := []) (nx := 0) (c := _) (by kernel_rfl) h
theorem rlastL0_2 (s t : ByteArray) (i : Int) (x0 : Int) (h : AllP [decide (x0 ≥ (0 : Int)) = true, stands s t x0 = false, SM s, SM t, (0 : Int) ≤ x0, x0 ≤ (8589934592 : Int), inR IntKind.i64 (x0 - (1 : Int))]) : To Tryd.prog (loopAt Tryd.f49 0) ({ n := 24, fr := [(0, AV.v (.string s)), (1, AV.v (.string t)), (7, AV.v (.int .i64 x0))], hp := [], nx := 0 }) (.normal) { n := 24, fr := [(0, AV.v (.string s)), (1, AV.v (.string t)), (7, AV.v (.int .i64 (x0 - (1 : Int))))], hp := [], nx := 0 } :=
  evW_to hm sokB (hs := [CHint.ops 4 [(1, Hint.b true)], CHint.ops 6 [(3, Hint.b false)]]) (slots := [0, 1, 7]) (keys := []) (nx := 0) (c := _) (by kernel_rfl) h
theorem rlastL0_3 (s t : ByteArray) (i : Int) (x0 : Int) (h : AllP [decide (x0 ≥ (0 : Int)) = false]) : To Tryd.prog (loopAt Tryd.f49 0) ({ n := 24, fr := [(0, AV.v (.string s)), (1, AV.v (.string t)), (7, AV.v (.int .i64 x0))], hp := [], nx := 0 }) (Exit.exit 0) { n := 24, fr := [], hp := [], nx := 0 } :=
  evW_to hm sokB (hs := [CHint.ops 4 [(1, Hint.b false)]]) (slots := []) (keys := []) (nx := 0) (c := _) (by kernel_rfl) h
-- 4 paths
theorem rlastF1 (s t : ByteArray) (i : Int) (x1 : Int) (h : AllP [SZ s, decide (i > (↑(ul s) : Int)) = true, SZ s, LoopTo Tryd.prog (loopAt Tryd.f49 0) { n := 24, fr := [(0, AV.v (.string s)), (1, AV.v (.string t)), (7, AV.v (.int .i64 (↑(ul s) : Int)))], hp := [], nx := 0 } (Exit.exit 0) { n := 24, fr := [], hp := [], nx := 0 }]) : PureTo Tryd.prog 49 [.v (.string s), .v (.string t), .v (.int .i64 i)] (AV.v (.int .i64 (-1 : Int))) :=
  evFn_pure hm sokB (fn := Tryd.f49) rfl rfl (ti := false) (hs := [CHint.ops 1 [(3, Hint.b true)], CHint.loop [0, 1, 7] [] 0 (Exit.exit 0) { n := 24, fr := [], hp := [], nx := 0 }]) (c := _) (by kernel_rfl) h
theorem rlastF2 (s t : ByteArray) (i : Int) (x1 : Int) (h : AllP [SZ s, decide (i > (↑(ul s) : Int)) = true, SZ s, LoopTo Tryd.prog (loopAt Tryd.f49 0) { n := 24, fr := [(0, AV.v (.string s)), (1, AV.v (.string t)), (7, AV.v (.int .i64 (↑(ul s) : Int)))], hp := [], nx := 0 } Exit.ret { n := 24, fr := [(6, AV.v (.int .i64 x1))], hp := [], nx := 0 }]) : PureTo Tryd.prog 49 [.v (.string s), .v (.string t), .v (.int .i64 i)] (AV.v (.int .i64 x1)) :=
  evFn_pure hm sokB (fn := Tryd.f49) rfl rfl (ti := false) (hs := [CHint.ops 1 [(3, Hint.b true)], CHint.loop [0, 1, 7] [] 0 Exit.ret { n := 24, fr := [(6, AV.v (.int .i64 x1))], hp := [], nx := 0 }]) (c := _) (by kernel_rfl) h
theorem rlastF3 (s t : ByteArray) (i : Int) (x1 : Int) (h : AllP [SZ s, decide (i > (↑(ul s) : Int)) = false, LoopTo Tryd.prog (loopAt Tryd.f49 0) { n := 24, fr := [(0, AV.v (.string s)), (1, AV.v (.string t)), (7, AV.v (.int .i64 i))], hp := [], nx := 0 } (Exit.exit 0) { n := 24, fr := [], hp := [], nx := 0 }]) : PureTo Tryd.prog 49 [.v (.string s), .v (.string t), .v (.int .i64 i)] (AV.v (.int .i64 (-1 : Int))) :=
  evFn_pure hm sokB (fn := Tryd.f49) rfl rfl (ti := false) (hs := [CHint.ops 1 [(3, Hint.b false)], CHint.loop [0, 1, 7] [] 0 (Exit.exit 0) { n := 24, fr := [], hp := [], nx := 0 }]) (c := _) (by kernel_rfl) h
theorem rlastF4 (s t : ByteArray) (i : Int) (x1 : Int) (h : AllP [SZ s, decide (i > (↑(ul s) : Int)) = false, LoopTo Tryd.prog (loopAt Tryd.f49 0) { n := 24, fr := [(0, AV.v (.string s)), (1, AV.v (.string t)), (7, AV.v (.int .i64 i))], hp := [], nx := 0 } Exit.ret { n := 24, fr := [(6, AV.v (.int .i64 x1))], hp := [], nx := 0 }]) : PureTo Tryd.prog 49 [.v (.string s), .v (.string t), .v (.int .i64 i)] (AV.v (.int .i64 x1)) :=
  evFn_pure hm sokB (fn := Tryd.f49) rfl rfl (ti := false) (hs := [CHint.ops 1 [(3, Hint.b false)], CHint.loop [0, 1, 7] [] 0 Exit.ret { n := 24, fr := [(6, AV.v (.int .i64 x1))], hp := [], nx := 0 }]) (c := _) (by kernel_rfl) h
-- 3 paths
theorem lastL0_1 (s t : ByteArray) (i : Int) (x0 : Int) (h : AllP [decide (x0 ≥ (0 : Int)) = true, inR IntKind.i64 ((2 : Int) * x0), inR IntKind.i64 ((2 : Int) * x0), inR IntKind.i64 ((2 : Int) * x0 + (↑(evn t).size : Int)), (0 : Int) ≤ (2 : Int) * x0 + (↑(evn t).size : Int) ∧ (2 : Int) * x0 + (↑(evn t).size : Int) ≤ (↑(evn s).size : Int), (0 : Int) ≤ (2 : Int) * x0 ∧ (2 : Int) * x0 ≤ (↑((2 : Int) * x0 + (↑(evn t).size : Int)).toNat : Int), (((evn s).extract ((2 : Int) * x0).toNat ((2 : Int) * x0 + (↑(evn t).size : Int)).toNat).toList == (evn t).toList) = true]) : To Tryd.prog (loopAt Tryd.f48 0) ({ n := 35, fr := [(0, AV.v (.string (evn s))), (1, AV.v (.string (evn t))), (7, AV.v (.int .i64 x0))], hp := [], nx := 0 }) (Exit.ret) { n := 35, fr := [(6, AV.v (.int .i64 x0))], hp := [], nx := 0 } :=
  evW_to hm sokB (hs := [CHint.ops 3 [(1, Hint.b true)], CHint.ops 5 [(10, Hint.b true)]]) (slots := [6]) (keys := []) (nx := 0) (c := _) (by kernel_rfl) h
theorem lastL0_2 (s t : ByteArray) (i : Int) (x0 : Int) (h : AllP [decide (x0 ≥ (0 : Int)) = true, inR IntKind.i64 ((2 : Int) * x0), inR IntKind.i64 ((2 : Int) * x0), inR IntKind.i64 ((2 : Int) * x0 + (↑(evn t).size : Int)), (0 : Int) ≤ (2 : Int) * x0 + (↑(evn t).size : Int) ∧ (2 : Int) * x0 + (↑(evn t).size : Int) ≤ (↑(evn s).size : Int), (0 : Int) ≤ (2 : Int) * x0 ∧ (2 : Int) * x0 ≤ (↑((2 : Int) * x0 + (↑(evn t).size : Int)).toNat : Int), (((evn s).extract ((2 : Int) * x0).toNat ((2 : Int) * x0 + (↑(evn t).size : Int)).toNat).toList == (evn t).toList) = false, inR IntKind.i64 (x0 - (1 : Int))]) : To Tryd.prog (loopAt Tryd.f48 0) ({ n := 35, fr := [(0, AV.v (.string (evn s))), (1, AV.v (.string (evn t))), (7, AV.v (.int .i64 x0))], hp := [], nx := 0 }) (.normal) { n := 35, fr := [(0, AV.v (.string (evn s))), (1, AV.v (.string (evn t))), (7, AV.v (.int .i64 (x0 - (1 : Int))))], hp := [], nx := 0 } :=
  evW_to hm sokB (hs := [CHint.ops 3 [(1, Hint.b true)], CHint.ops 5 [(10, Hint.b false)]]) (slots := [0, 1, 7]) (keys := []) (nx := 0) (c := _) (by kernel_rfl) h
theorem lastL0_3 (s t : ByteArray) (i : Int) (x0 : Int) (h : AllP [decide (x0 ≥ (0 : Int)) = false]) : To Tryd.prog (loopAt Tryd.f48 0) ({ n := 35, fr := [(0, AV.v (.string (evn s))), (1, AV.v (.string (evn t))), (7, AV.v (.int .i64 x0))], hp := [], nx := 0 }) (Exit.exit 0) { n := 35, fr := [], hp := [], nx := 0 } :=
  evW_to hm sokB (hs := [CHint.ops 3 [(1, Hint.b false)]]) (slots := []) (keys := []) (nx := 0) (c := _) (by kernel_rfl) h
-- 2 paths
theorem lastF1 (s t : ByteArray) (i : Int) (x1 : Int) (h : AllP [SZ s, SZ t, SZ (evn s), SZ (evn t), inR IntKind.i64 ((↑(ul (evn s)) : Int) - (↑(ul (evn t)) : Int)), LoopTo Tryd.prog (loopAt Tryd.f48 0) { n := 35, fr := [(0, AV.v (.string (evn s))), (1, AV.v (.string (evn t))), (7, AV.v (.int .i64 (if (↑(ul (evn s)) : Int) - (↑(ul (evn t)) : Int) < i then (↑(ul (evn s)) : Int) - (↑(ul (evn t)) : Int) else i)))], hp := [], nx := 0 } (Exit.exit 0) { n := 35, fr := [], hp := [], nx := 0 }]) : PureTo Tryd.prog 48 [.v (.string s), .v (.string t), .v (.int .i64 i)] (AV.v (.int .i64 (-1 : Int))) :=
  evFn_pure hm sokB (fn := Tryd.f48) rfl rfl (ti := false) (hs := [CHint.loop [0, 1, 7] [] 0 (Exit.exit 0) { n := 35, fr := [], hp := [], nx := 0 }]) (c := _) (by kernel_rfl) h
theorem lastF2 (s t : ByteArray) (i : Int) (x1 : Int) (h : AllP [SZ s, SZ t, SZ (evn s), SZ (evn t), inR IntKind.i64 ((↑(ul (evn s)) : Int) - (↑(ul (evn t)) : Int)), LoopTo Tryd.prog (loopAt Tryd.f48 0) { n := 35, fr := [(0, AV.v (.string (evn s))), (1, AV.v (.string (evn t))), (7, AV.v (.int .i64 (if (↑(ul (evn s)) : Int) - (↑(ul (evn t)) : Int) < i then (↑(ul (evn s)) : Int) - (↑(ul (evn t)) : Int) else i)))], hp := [], nx := 0 } Exit.ret { n := 35, fr := [(6, AV.v (.int .i64 x1))], hp := [], nx := 0 }]) : PureTo Tryd.prog 48 [.v (.string s), .v (.string t), .v (.int .i64 i)] (AV.v (.int .i64 x1)) :=
  evFn_pure hm sokB (fn := Tryd.f48) rfl rfl (ti := false) (hs := [CHint.loop [0, 1, 7] [] 0 Exit.ret { n := 35, fr := [(6, AV.v (.int .i64 x1))], hp := [], nx := 0 }]) (c := _) (by kernel_rfl) h
-- 3 paths
theorem rindexL0_1 (s t : ByteArray) (i : Int) (x0 : Int) (h : AllP [SZ s, decide (x0 ≤ (↑(ul s) : Int)) = true, stands s t x0 = true, SM s, SM t, (0 : Int) ≤ x0, x0 ≤ (8589934592 : Int)]) : To Tryd.prog (loopAt Tryd.f47 0) ({ n := 22, fr := [(0, AV.v (.string s)), (1, AV.v (.string t)), (7, AV.v (.int .i64 x0))], hp := [], nx := 0 }) (Exit.ret) { n := 22, fr := [(6, AV.v (.int .i64 x0))], hp := [], nx := 0 } :=
  evW_to hm sokB (hs := [CHint.ops 4 [(3, Hint.b true)], CHint.ops 6 [(3, Hint.b true)]]) (slots := [6]) (keys := []) (nx := 0) (c := _) (by kernel_rfl) h
theorem rindexL0_2 (s t : ByteArray) (i : Int) (x0 : Int) (h : AllP [SZ s, decide (x0 ≤ (↑(ul s) : Int)) = true, stands s t x0 = false, SM s, SM t, (0 : Int) ≤ x0, x0 ≤ (8589934592 : Int), inR IntKind.i64 (x0 + (1 : Int))]) : To Tryd.prog (loopAt Tryd.f47 0) ({ n := 22, fr := [(0, AV.v (.string s)), (1, AV.v (.string t)), (7, AV.v (.int .i64 x0))], hp := [], nx := 0 }) (.normal) { n := 22, fr := [(0, AV.v (.string s)), (1, AV.v (.string t)), (7, AV.v (.int .i64 (x0 + (1 : Int))))], hp := [], nx := 0 } :=
  evW_to hm sokB (hs := [CHint.ops 4 [(3, Hint.b true)], CHint.ops 6 [(3, Hint.b false)]]) (slots := [0, 1, 7]) (keys := []) (nx := 0) (c := _) (by kernel_rfl) h
theorem rindexL0_3 (s t : ByteArray) (i : Int) (x0 : Int) (h : AllP [SZ s, decide (x0 ≤ (↑(ul s) : Int)) = false]) : To Tryd.prog (loopAt Tryd.f47 0) ({ n := 22, fr := [(0, AV.v (.string s)), (1, AV.v (.string t)), (7, AV.v (.int .i64 x0))], hp := [], nx := 0 }) (Exit.exit 0) { n := 22, fr := [], hp := [], nx := 0 } :=
  evW_to hm sokB (hs := [CHint.ops 4 [(3, Hint.b false)]]) (slots := []) (keys := []) (nx := 0) (c := _) (by kernel_rfl) h
-- 4 paths
theorem rindexF1 (s t : ByteArray) (i : Int) (x1 : Int) (h : AllP [decide (i < (0 : Int)) = true, LoopTo Tryd.prog (loopAt Tryd.f47 0) { n := 22, fr := [(0, AV.v (.string s)), (1, AV.v (.string t)), (7, AV.v (.int .i64 (0 : Int)))], hp := [], nx := 0 } (Exit.exit 0) { n := 22, fr := [], hp := [], nx := 0 }]) : PureTo Tryd.prog 47 [.v (.string s), .v (.string t), .v (.int .i64 i)] (AV.v (.int .i64 (-1 : Int))) :=
  evFn_pure hm sokB (fn := Tryd.f47) rfl rfl (ti := false) (hs := [CHint.ops 1 [(1, Hint.b true)], CHint.loop [0, 1, 7] [] 0 (Exit.exit 0) { n := 22, fr := [], hp := [], nx := 0 }]) (c := _) (by kernel_rfl) h
theorem rindexF2 (s t : ByteArray) (i : Int) (x1 : Int) (h : AllP [decide (i < (0 : Int)) = true, LoopTo Tryd.prog (loopAt Tryd.f47 0) { n := 22, fr := [(0, AV.v (.string s)), (1, AV.v (.string t)), (7, AV.v (.int .i64 (0 : Int)))], hp := [], nx := 0 } Exit.ret { n := 22, fr := [(6, AV.v (.int .i64 x1))], hp := [], nx := 0 }]) : PureTo Tryd.prog 47 [.v (.string s), .v (.string t), .v (.int .i64 i)] (AV.v (.int .i64 x1)) :=
  evFn_pure hm sokB (fn := Tryd.f47) rfl rfl (ti := false) (hs := [CHint.ops 1 [(1, Hint.b true)], CHint.loop [0, 1, 7] [] 0 Exit.ret { n := 22, fr := [(6, AV.v (.int .i64 x1))], hp := [], nx := 0 }]) (c := _) (by kernel_rfl) h
theorem rindexF3 (s t : ByteArray) (i : Int) (x1 : Int) (h : AllP [decide (i < (0 : Int)) = false, LoopTo Tryd.prog (loopAt Tryd.f47 0) { n := 22, fr := [(0, AV.v (.string s)), (1, AV.v (.string t)), (7, AV.v (.int .i64 i))], hp := [], nx := 0 } (Exit.exit 0) { n := 22, fr := [], hp := [], nx := 0 }]) : PureTo Tryd.prog 47 [.v (.string s), .v (.string t), .v (.int .i64 i)] (AV.v (.int .i64 (-1 : Int))) :=
  evFn_pure hm sokB (fn := Tryd.f47) rfl rfl (ti := false) (hs := [CHint.ops 1 [(1, Hint.b false)], CHint.loop [0, 1, 7] [] 0 (Exit.exit 0) { n := 22, fr := [], hp := [], nx := 0 }]) (c := _) (by kernel_rfl) h
theorem rindexF4 (s t : ByteArray) (i : Int) (x1 : Int) (h : AllP [decide (i < (0 : Int)) = false, LoopTo Tryd.prog (loopAt Tryd.f47 0) { n := 22, fr := [(0, AV.v (.string s)), (1, AV.v (.string t)), (7, AV.v (.int .i64 i))], hp := [], nx := 0 } Exit.ret { n := 22, fr := [(6, AV.v (.int .i64 x1))], hp := [], nx := 0 }]) : PureTo Tryd.prog 47 [.v (.string s), .v (.string t), .v (.int .i64 i)] (AV.v (.int .i64 x1)) :=
  evFn_pure hm sokB (fn := Tryd.f47) rfl rfl (ti := false) (hs := [CHint.ops 1 [(1, Hint.b false)], CHint.loop [0, 1, 7] [] 0 Exit.ret { n := 22, fr := [(6, AV.v (.int .i64 x1))], hp := [], nx := 0 }]) (c := _) (by kernel_rfl) h
end Go.Proofs.Us

/- Texts: where a text stands last; the reference's Index. -/
set_option maxRecDepth 100000
namespace Go.Proofs.Us
open Go Go.Ev

def lastG (s t : ByteArray) : Nat → Int
  | 0 => -1
  | i + 1 => if stands s t i = true then i else lastG s t i
def lastS (s t : ByteArray) (i : Int) : Int := lastG s t ((if (ul s : Int) < i then (ul s : Int) else i) + 1).toNat
theorem lastG_skip {s t : ByteArray} {m : Nat} : ∀ n, m ≤ n → (∀ j : Nat, m ≤ j → j < n → stands s t j = false) → lastG s t n = lastG s t m
  | 0, h, _ => by obtain rfl : m = 0 := by omega
                  rfl
  | n + 1, h, hs => by
    by_cases e : m = n + 1
    · rw [e]
    · have h1 := hs n (by omega) (by omega)
      show (if stands s t n = true then (n : Int) else lastG s t n) = _
      rw [h1]
      simpa using lastG_skip n (by omega) fun j h1 h2 => hs j h1 (by omega)

theorem rlast_loop {s t : ByteArray} (i : Int) (hs : SM s) (ht : SM t) : ∀ (n : Nat) (x : Int), n ≤ 4294967297 → (x = n - 1 ∨ (n = 0 ∧ x < 0)) →
    LoopTo Tryd.prog (loopAt Tryd.f49 0) (rlastS0 s t i x) .ret (rlastX0_1 s t i (lastG s t n)) ∨ (LoopTo Tryd.prog (loopAt Tryd.f49 0) (rlastS0 s t i x) (.exit 0) (rlastX0 s t i) ∧ lastG s t n = -1)
  | 0, x, hn, hx => .inr ⟨.done (by simp) (rlastL0_3 s t i x ⟨by simp; omega, trivial⟩), rfl⟩
  | n + 1, x, hn, hx => by
    obtain rfl : x = (n : Int) := by omega
    have hd : decide ((n : Int) ≥ 0) = true := by simp
    cases c : stands s t n with
    | true =>
      have e : lastG s t (n + 1) = n := by show (if stands s t n = true then (n : Int) else lastG s t n) = _; rw [c]; rfl
      rw [e]
      exact .inl (.done (by simp) (rlastL0_1 s t i n ⟨hd, c, hs, ht, by omega, by omega, trivial⟩))
    | false =>
      have e : lastG s t (n + 1) = lastG s t n := by show (if stands s t n = true then (n : Int) else lastG s t n) = _; rw [c]; rfl
      rw [e]
      have st := rlastL0_2 s t i n ⟨hd, c, hs, ht, by omega, by omega, by simp only [inR]; omega, trivial⟩
      rcases rlast_loop i hs ht n ((n : Int) - 1) (by omega) (by omega) with h | ⟨h, h'⟩
      · exact .inl (.step st h)
      · exact .inr ⟨.step st h, h'⟩

theorem rlast_c {s t : ByteArray} {i : Int} (hs : SM s) (ht : SM t) : PureTo Tryd.prog 49 [.v (.string s), .v (.string t), .v (.int .i64 i)] (.v (.int .i64 (lastS s t i))) := by
  have hu : ul s ≤ s.size := by unfold ul; omega
  have hz := hs.sz
  have hs' := hs
  unfold SM at hs'
  unfold lastS
  by_cases c : (ul s : Int) < i
  · rw [if_pos c]
    have hd : decide (i > (↑(ul s) : Int)) = true := by simpa using c
    rcases rlast_loop i hs ht (((ul s : Int) + 1).toNat) (ul s) (by omega) (by omega) with h | ⟨h, e⟩
    · exact rlastF2 (s := s) (t := t) (i := i) (x1 := lastG s t ((ul s : Int) + 1).toNat) (h := ⟨hz, hd, hz, h, trivial⟩)
    · rw [e]
      exact rlastF1 (s := s) (t := t) (i := i) (x1 := 0) (h := ⟨hz, hd, hz, h, trivial⟩)
  · rw [if_neg c]
    have hd : decide (i > (↑(ul s) : Int)) = false := by simp; omega
    rcases rlast_loop i hs ht ((i + 1).toNat) i (by omega) (by omega) with h | ⟨h, e⟩
    · exact rlastF4 (s := s) (t := t) (i := i) (x1 := lastG s t (i + 1).toNat) (h := ⟨hz, hd, h, trivial⟩)
    · rw [e]
      exact rlastF3 (s := s) (t := t) (i := i) (x1 := 0) (h := ⟨hz, hd, h, trivial⟩)

theorem evn_SM {s : ByteArray} (h : SM s) : SM (evn s) := by
  unfold SM at *
  rw [evn_size]
  unfold ul
  omega
theorem extract_evn {s : ByteArray} {a b : Nat} (h : b ≤ 2 * ul s) : (evn s).extract a b = s.extract a b := by
  unfold evn
  apply ByteArray.ext
  simp only [ByteArray.data_extract, Array.extract_extract]
  congr 1 <;> omega
theorem stands_in {s t : ByteArray} {n : Nat} (h : n + ul t ≤ ul s) : stands s t n = ((evn s).extract ((2 : Int) * n).toNat ((2 : Int) * n + (↑(evn t).size : Int)).toNat).toList.beq (evn t).toList := by
  unfold stands
  rw [show decide ((n : Int) + (↑(ul t) : Int) ≤ (↑(ul s) : Int)) = true from by simp; omega, cond_true, evn_size]
  have e : ((2 : Int) * n + (((2 * ul t : Nat)) : Int)).toNat = ((2 : Int) * n + (2 : Int) * (↑(ul t) : Int)).toNat := by omega
  have e2 : ((2 : Int) * (↑(ul t) : Int)).toNat = 2 * ul t := by omega
  rw [e, e2, extract_evn (by omega)]
  rfl
theorem stands_out {s t : ByteArray} {n : Nat} (h : ul s < n + ul t) : stands s t n = false := by
  unfold stands
  rw [show decide ((n : Int) + (↑(ul t) : Int) ≤ (↑(ul s) : Int)) = false from by simp; omega, cond_false]

theorem last_loop {s t : ByteArray} (i : Int) (hs : SM s) (ht : SM t) : ∀ (n : Nat) (x : Int), n + ul t ≤ ul s + 1 ∨ n = 0 → (x = n - 1 ∨ (n = 0 ∧ x < 0)) →
    LoopTo Tryd.prog (loopAt Tryd.f48 0) (lastS0 s t i x) .ret (lastX0_1 s t i (lastG s t n)) ∨ (LoopTo Tryd.prog (loopAt Tryd.f48 0) (lastS0 s t i x) (.exit 0) (lastX0 s t i) ∧ lastG s t n = -1)
  | 0, x, hn, hx => .inr ⟨.done (by simp) (lastL0_3 s t i x ⟨by simp; omega, trivial⟩), rfl⟩
  | n + 1, x, hn, hx => by
    obtain rfl : x = (n : Int) := by omega
    have hd : decide ((n : Int) ≥ 0) = true := by simp
    have hu : ul s ≤ s.size := by unfold ul; omega
    have hs' := hs
    unfold SM at hs'
    have z1 := evn_size s
    have z2 := evn_size t
    have r1 : inR .i64 ((2 : Int) * n) := by simp only [inR]; omega
    have r2 : inR .i64 ((2 : Int) * n + (↑(evn t).size : Int)) := by simp only [inR]; omega
    have r3 : (0 : Int) ≤ (2 : Int) * n + (↑(evn t).size : Int) ∧ (2 : Int) * n + (↑(evn t).size : Int) ≤ (↑(evn s).size : Int) := ⟨by omega, by omega⟩
    have r4 : (0 : Int) ≤ (2 : Int) * n ∧ (2 : Int) * n ≤ (↑((2 : Int) * n + (↑(evn t).size : Int)).toNat : Int) := ⟨by omega, by omega⟩
    have hst := stands_in (s := s) (t := t) (n := n) (by omega)
    cases c : stands s t n with
    | true =>
      have e : lastG s t (n + 1) = n := by show (if stands s t n = true then (n : Int) else lastG s t n) = _; rw [c]; rfl
      rw [e]
      rw [c] at hst
      exact .inl (.done (by simp) (lastL0_1 s t i n ⟨hd, r1, r1, r2, r3, r4, hst.symm, trivial⟩))
    | false =>
      have e : lastG s t (n + 1) = lastG s t n := by show (if stands s t n = true then (n : Int) else lastG s t n) = _; rw [c]; rfl
      rw [e]
      rw [c] at hst
      have st := lastL0_2 s t i n ⟨hd, r1, r1, r2, r3, r4, hst.symm, by simp only [inR]; omega, trivial⟩
      rcases last_loop i hs ht n ((n : Int) - 1) (by omega) (by omega) with h | ⟨h, h'⟩
      · exact .inl (.step st h)
      · exact .inr ⟨.step st h, h'⟩

theorem last_c {s t : ByteArray} {i : Int} (hs : SM s) (ht : SM t) : PureTo Tryd.prog 48 [.v (.string s), .v (.string t), .v (.int .i64 i)] (.v (.int .i64 (lastS s t i))) := by
  have hu : ul s ≤ s.size := by unfold ul; omega
  have hu2 : ul t ≤ t.size := by unfold ul; omega
  have hs' := hs
  have ht' := ht
  unfold SM at hs' ht'
  have m : ∀ x : Int, x = (if (ul s : Int) - ul t < i then (ul s : Int) - ul t else i) → lastS s t i = lastG s t (x + 1).toNat := by
    intro x hx
    unfold lastS
    apply lastG_skip
    · split at hx <;> split <;> omega
    · intro j h1 h2
      apply stands_out
      split at hx <;> split at h2 <;> omega
  have hr : inR .i64 ((↑(ul (evn s)) : Int) - (↑(ul (evn t)) : Int)) := by rw [evn_ul, evn_ul]; simp only [inR]; omega
  rw [m _ rfl]
  have hx : ∀ x : Int, x = (if (ul s : Int) - ul t < i then (ul s : Int) - ul t else i) → x ≤ (ul s : Int) - ul t := by
    intro x hx
    split at hx <;> omega
  have hx := hx _ rfl
  have F1 := lastF1 (s := s) (t := t) (i := i) (x1 := 0)
  have F2 := fun x1 => lastF2 (s := s) (t := t) (i := i) (x1 := x1)
  rw [evn_ul, evn_ul] at F1 hr
  simp only [evn_ul] at F2
  generalize (if (ul s : Int) - ul t < i then (ul s : Int) - ul t else i) = x at *
  rcases last_loop i hs ht ((x + 1).toNat) x (by omega) (by omega) with h | ⟨h, e⟩
  · exact F2 _ ⟨hs.sz, ht.sz, (evn_SM hs).sz, (evn_SM ht).sz, hr, h, trivial⟩
  · rw [e]
    exact F1 ⟨hs.sz, ht.sz, (evn_SM hs).sz, (evn_SM ht).sz, hr, h, trivial⟩

def idxG (s t : ByteArray) : Nat → Nat → Int
  | 0, _ => -1
  | f + 1, i => if i ≤ ul s then (if stands s t i = true then i else idxG s t f (i + 1)) else -1
/-- where a text stands in another one -/
def idxS (s t : ByteArray) (i : Int) : Int := idxG s t (ul s + 1) i.toNat
theorem rindex_loop {s t : ByteArray} (y : Int) (hs : SM s) (ht : SM t) : ∀ f i : Nat, ul s + 1 ≤ i + f →
    LoopTo Tryd.prog (loopAt Tryd.f47 0) (rindexS0 s t y i) .ret (rindexX0_1 s t y (idxG s t f i)) ∨ (LoopTo Tryd.prog (loopAt Tryd.f47 0) (rindexS0 s t y i) (.exit 0) (rindexX0 s t y) ∧ idxG s t f i = -1)
  | 0, i, hf => .inr ⟨.done (by simp) (rindexL0_3 s t y i ⟨hs.sz, by simp; omega, trivial⟩), rfl⟩
  | f + 1, i, hf => by
    have hu : ul s ≤ s.size := by unfold ul; omega
    have hs' := hs
    unfold SM at hs'
    unfold idxG
    by_cases c1 : i ≤ ul s
    · have hd : decide ((i : Int) ≤ (↑(ul s) : Int)) = true := by simpa using c1
      rw [if_pos c1]
      cases c : stands s t i with
      | true => exact .inl (.done (by simp) (rindexL0_1 s t y i ⟨hs.sz, hd, c, hs, ht, by omega, by omega, trivial⟩))
      | false =>
        have st := rindexL0_2 s t y i ⟨hs.sz, hd, c, hs, ht, by omega, by omega, by simp only [inR]; omega, trivial⟩
        rcases rindex_loop y hs ht f (i + 1) (by omega) with h | ⟨h, h'⟩
        · exact .inl (.step st h)
        · exact .inr ⟨.step st h, h'⟩
    · rw [if_neg c1]
      exact .inr ⟨.done (by simp) (rindexL0_3 s t y i ⟨hs.sz, by simp; omega, trivial⟩), rfl⟩
theorem rindex_c {s t : ByteArray} {i : Int} (hs : SM s) (ht : SM t) : PureTo Tryd.prog 47 [.v (.string s), .v (.string t), .v (.int .i64 i)] (.v (.int .i64 (idxS s t i))) := by
  unfold idxS
  by_cases c : i < 0
  · have hd : decide (i < 0) = true := by simpa using c
    rw [show i.toNat = 0 from by omega]
    rcases rindex_loop i hs ht (ul s + 1) 0 (by omega) with h | ⟨h, e⟩
    · exact rindexF2 (s := s) (t := t) (i := i) (x1 := idxG s t (ul s + 1) 0) (h := ⟨hd, h, trivial⟩)
    · rw [e]; exact rindexF1 (s := s) (t := t) (i := i) (x1 := 0) (h := ⟨hd, h, trivial⟩)
  · have hd : decide (i < 0) = false := by simp; omega
    obtain ⟨n, rfl⟩ : ∃ n : Nat, i = n := ⟨i.toNat, by omega⟩
    rcases rindex_loop (n : Int) hs ht (ul s + 1) n (by omega) with h | ⟨h, e⟩
    · exact rindexF4 (s := s) (t := t) (i := n) (x1 := idxG s t (ul s + 1) n) (h := ⟨hd, h, trivial⟩)
    · rw [Int.toNat_natCast, e]; exact rindexF3 (s := s) (t := t) (i := n) (x1 := 0) (h := ⟨hd, h, trivial⟩)
end Go.Proofs.Us

/- Texts: the table for the order. -/
set_option maxRecDepth 100000
namespace Go.Proofs.Us
open Go Go.Ev
theorem isn_c (s : ByteArray) : PureTo Tryd.prog 83 [.v (.string s)] (.v (.bool false)) := by
  have h := isn_pure s
  rw [show isn s = false by simp [isn]] at h
  exact h
def SGC : SGT := (83, .p (sigS fun _ => (.v (.bool false), []))) :: (47, .p (sigSSI fun s t i => (.v (.int .i64 (idxS s t i)), [SM s, SM t]))) ::
  (48, .p (sigSSI fun s t i => (.v (.int .i64 (lastS s t i)), [SM s, SM t]))) :: (49, .p (sigSSI fun s t i => (.v (.int .i64 (lastS s t i)), [SM s, SM t]))) :: (51, .p (sigSS fun s t => (.v (.int .i64 (cmpS s t)), [SM s, SM t]))) :: SGB
theorem sokC : SigsOK Tryd.prog SGC :=
  sigs_cons (sigs_cons (sigs_cons (sigs_cons (sigs_cons sokB (sigSS_ok fun s t h => rcmp_c h.1 h.2.1)) (sigSSI_ok fun s t i h => rlast_c h.1 h.2.1)) (sigSSI_ok fun s t i h => last_c h.1 h.2.1)) (sigSSI_ok fun s t i h => rindex_c h.1 h.2.1)) (sigS_ok fun s _ => isn_c s)
end Go.Proofs.Us

/- Texts: walks, written by the tool. -/
set_option maxRecDepth 100000
namespace Go.Proofs.Us
open Go Go.Ev

-- 3 paths
theorem cmpF1 (s t : ByteArray) (h : AllP [Op.bytesLess s.toList t.toList = true]) : PureTo Tryd.prog 75 [.v (.string s), .v (.string t)] (AV.v (.int .i64 (-1 : Int))) :=
  evFn_pure hm sokC (fn := Tryd.f75) rfl rfl (ti := false) (hs := [CHint.ops 9 [(2, Hint.b true)]]) (c := _) (by kernel_rfl) h
theorem cmpF2 (s t : ByteArray) (h : AllP [Op.bytesLess s.toList t.toList = false, (!(Op.bytesLess s.toList t.toList || s.toList == t.toList)) = true]) : PureTo Tryd.prog 75 [.v (.string s), .v (.string t)] (AV.v (.int .i64 (1 : Int))) :=
  evFn_pure hm sokC (fn := Tryd.f75) rfl rfl (ti := false) (hs := [CHint.ops 9 [(2, Hint.b false)], CHint.ops 11 [(2, Hint.b true)]]) (c := _) (by kernel_rfl) h
theorem cmpF3 (s t : ByteArray) (h : AllP [Op.bytesLess s.toList t.toList = false, (!(Op.bytesLess s.toList t.toList || s.toList == t.toList)) = false]) : PureTo Tryd.prog 75 [.v (.string s), .v (.string t)] (AV.v (.int .i64 (0 : Int))) :=
  evFn_pure hm sokC (fn := Tryd.f75) rfl rfl (ti := false) (hs := [CHint.ops 9 [(2, Hint.b false)], CHint.ops 11 [(2, Hint.b false)]]) (c := _) (by kernel_rfl) h
end Go.Proofs.Us

/- Texts: cmp.Compare at strings. -/
set_option maxRecDepth 100000
namespace Go.Proofs.Us
open Go Go.Ev
theorem less_ints (s t : ByteArray) : Op.bytesLess s.toList t.toList = ltI (intsOfStr s) (intsOfStr t) := by
  rw [Lib.toList_data, Lib.toList_data, bytesLess_ints]; rfl
theorem same_ints (s t : ByteArray) : (s.toList == t.toList) = decide (intsOfStr s = intsOfStr t) := by
  rw [Bool.eq_iff_iff, beq_iff_eq, decide_eq_true_eq, Lib.toList_data, Lib.toList_data]
  constructor
  · intro h; unfold intsOfStr; rw [h]
  · intro h
    have := congrArg strOfInts h
    rw [str_ints, str_ints] at this
    rw [this]
theorem cmp_c (s t : ByteArray) : PureTo Tryd.prog 75 [.v (.string s), .v (.string t)] (.v (.int .i64 (cmpI (intsOfStr s) (intsOfStr t)))) := by
  have F1 := cmpF1 s t
  have F2 := cmpF2 s t
  have F3 := cmpF3 s t
  rw [less_ints] at F1
  rw [less_ints, same_ints] at F2 F3
  unfold cmpI
  cases c : ltI (intsOfStr s) (intsOfStr t) with
  | true => rw [if_pos rfl]; exact F1 ⟨c, trivial⟩
  | false =>
    rw [if_neg (by simp)]
    by_cases e : intsOfStr s = intsOfStr t
    · rw [if_pos e]; exact F3 ⟨c, by simp [c, e], trivial⟩
    · rw [if_neg e]; exact F2 ⟨c, by simp [c, e], trivial⟩
def SGD : SGT := (75, .p (sigSS fun s t => (.v (.int .i64 (cmpI (intsOfStr s) (intsOfStr t))), []))) :: SGC
theorem sokD : SigsOK Tryd.prog SGD := sigs_cons sokC (sigSS_ok fun s t _ => cmp_c s t)
end Go.Proofs.Us

/- Texts: walks, written by the tool. -/
set_option maxRecDepth 100000
namespace Go.Proofs.Us
open Go Go.Ev

theorem compare_ev (s t : ByteArray) (h : AllP [SZ s, SZ t]) : PureTo Tryd.prog 50 [.v (.string s), .v (.string t)] (AV.v (.int .i64 (cmpI (intsOfStr (evn s)) (intsOfStr (evn t))))) :=
  evFnM_pure hm sokD (fn := Tryd.f50) rfl rfl (ti := false) (m := Mode.same) (hs := []) (c := _) (by kernel_rfl) (by kernel_rfl) h
def compare (s t : ByteArray) : Int := cmpI (intsOfStr (evn s)) (intsOfStr (evn t))
theorem compare_pure (s t : ByteArray) (h : AllP [SZ s, SZ t]) : PureTo Tryd.prog 50 [.v (.string s), .v (.string t)] (AV.v (.int .i64 (compare s t))) := compare_ev s t h
end Go.Proofs.Us

/- Texts: strings.Index by the shelf's contract; MaxLen. -/
set_option maxRecDepth 100000
namespace Go.Proofs
open Go.Shelf
def Tryd.lays143_ren : Go.Shelf.Ren := ⟨fun | 143 => 73 | 219 => 82 | 217 => 89 | 225 => 90 | 224 => 91 | 267 => 92 | 266 => 98 | 314 => 99 | n => n, fun | 9 => 9 | 3 => 3 | 4 => 4 | 5 => 5 | 46 => 59 | 146 => 83 | 51 => 55 | n => n, fun | 1 => 2 | n => n⟩
theorem Tryd.lays143 : Go.Proofs.Lays.n143 Tryd.prog Tryd.lays143_ren := {
  mixed := by kernel_rfl
  f143 := Tryd.func73.trans (congrArg some (by kernel_rfl))
  f217 := Tryd.func89.trans (congrArg some (by kernel_rfl))
  f219 := Tryd.func82.trans (congrArg some (by kernel_rfl))
  f224 := Tryd.func91.trans (congrArg some (by kernel_rfl))
  f225 := Tryd.func90.trans (congrArg some (by kernel_rfl))
  f266 := Tryd.func98.trans (congrArg some (by kernel_rfl))
  f267 := Tryd.func92.trans (congrArg some (by kernel_rfl))
  f314 := Tryd.func99.trans (congrArg some (by kernel_rfl))
  t3 := Tryd.underlying3
  a3 := Tryd.isAgg3
  z3 := Tryd.sizeOf3
  v3 := Tryd.zeroValue3
  t4 := Tryd.underlying4
  a4 := Tryd.isAgg4
  z4 := Tryd.sizeOf4
  v4 := Tryd.zeroValue4
  t5 := Tryd.underlying5
  a5 := Tryd.isAgg5
  z5 := Tryd.sizeOf5
  v5 := Tryd.zeroValue5
  t9 := Tryd.underlying9
  a9 := Tryd.isAgg9
  z9 := Tryd.sizeOf9
  v9 := Tryd.zeroValue9
  t46 := Tryd.underlying59
  a46 := Tryd.isAgg59
  z46 := Tryd.sizeOf59
  v46 := Tryd.zeroValue59
  t51 := Tryd.underlying55
  a51 := Tryd.isAgg55
  z51 := Tryd.sizeOf55
  v51 := Tryd.zeroValue55
  t146 := Tryd.underlying83
  a146 := Tryd.isAgg83
  z146 := Tryd.sizeOf83
  v146 := Tryd.zeroValue83
  g1 := by kernel_rfl }
open Go.RowKit Go.Lib in
/-- strings.Index: "Index returns the index of the first instance of substr in s, or -1 if substr is not present in s.": IT RETURNS 'Lib.index s substr'; the world is as it was. (LAID: no walk: one application.) -/
theorem Tryd.strings_Index (s sub : ByteArray) (m : Int) (w : World) (hs : s.size < 4294967281) (hm : w.cell? ⟨2, 0, none⟩ = some (.int .i64 m)) :
    Calls Tryd.prog 73 #[.string s, .string sub] w fun e w' => e = .returned (.int .i64 (Lib.index s.data.toList sub.data.toList)) ∧ w' = w := Any.strings_Index Tryd.lays143 s sub m w hs hm
end Go.Proofs
namespace Go.Ev
open Go

/-- a contract of the shelf, over two values that are told -/
theorem pure_of_calls2w [Globs] {P : Program} {f : FuncId} {fn : Func} {code : Code} {x y z : Value} (hf : P.funcs[f]? = some fn) (hb : fn.body = some code) (hn : (fn.name == "runtime.NumGoroutine") = false) (hz : okV z)
    (h : ∀ S : St, S.wf → Calls P f #[x, y] S.w fun e w' => e = .returned z ∧ w' = S.w) : PureTo P f [.v x, .v y] (.v z) := by
  intro S vals hwf hv
  obtain ⟨h1, h2⟩ := hv
  match vals, h1 with
  | [a, b], _ =>
    have ha := h2 0 (by simp) (by simp)
    have hb' := h2 1 (by simp) (by simp)
    simp only [List.getElem_cons_zero, List.getElem_cons_succ] at ha hb'
    obtain ⟨rfl, _⟩ := repI_v ha
    obtain ⟨rfl, _⟩ := repI_v hb'
    have hn' : fn.name ≠ "runtime.NumGoroutine" := by simpa using hn
    have hrun : (callFunc f ([a, b] : List Value).toArray).run P S.w = .ok (.enter f #[a, b]) S.w := by simp [callFunc, hf, hn', hb]
    unfold CalledTo
    rw [hrun]
    refine ⟨rfl, (h S hwf).mono fun e w' ⟨he, hw⟩ => ⟨z, he, ?_, .v _ hz⟩⟩
    rw [hw]
    exact Grows.refl _

end Go.Ev
namespace Go.Proofs.Us
open Go Go.Ev

/-- where a text of bytes stands first -/
def idxB (s t : ByteArray) : Int := Lib.index s.data.toList t.data.toList
theorem len_data (s : ByteArray) : s.data.toList.length = s.size := by rw [Array.length_toList]; rfl
section
open Go.Lib
theorem occ_drop (l m : List UInt8) (a k : Nat) : occAt (l.drop a) m k = occAt l m (a + k) := by
  unfold occAt
  rw [List.drop_drop]
end
/-- what internal/bytealg.MaxLen holds: any number -/
class MX where mx : Int
def tabsX (m : Int) : List (Nat × Nat × Seq AV) := (2, 1, .fn 1 fun _ => .v (.int .i64 m)) :: Globs.tab
theorem more_wf {m : Int} {S : St} (h : @St.wf ⟨tabsX m⟩ S) : St.wf S :=
  ⟨@St.wf.bound ⟨tabsX m⟩ S h, @St.wf.kept ⟨tabsX m⟩ S h, @St.wf.lu ⟨tabsX m⟩ S h, fun g sz q hl => @St.wf.glob ⟨tabsX m⟩ S h g sz q (by
    match g, hl with
    | 0, hl => exact hl
    | 1, hl => exact hl
    | g + 2, hl => cases (show (none : Option (Nat × Seq AV)) = some (sz, q) from hl))⟩
theorem PureTo.more {P : Program} {f : FuncId} {ys : List AV} {r : AV} (m : Int) (h : PureTo P f ys r) : @PureTo ⟨tabsX m⟩ P f ys r :=
  fun S vals hwf hv => h S vals (more_wf hwf) hv
instance (priority := 2000) globX [MX] : Globs := ⟨tabsX MX.mx⟩
variable [MX]


theorem mx_cell {S : St} (h : S.wf) : S.w.cell? ⟨2, 0, none⟩ = some (.int .i64 MX.mx) := by
  obtain ⟨_, _, hc⟩ := h.glob 2 1 (.fn 1 fun _ => .v (.int .i64 MX.mx)) rfl
  obtain ⟨_, hc⟩ := hc 0 Nat.one_pos
  obtain ⟨x, h1, _, h3⟩ := hc 0 Nat.one_pos
  cases h1
  exact h3
theorem sigs_cons2 {P : Program} {SG : SGT} {f : FuncId} {g : ByteArray → ByteArray → AV × List Prop} (h : SigsOK P SG) (hf : ∀ s t, AllP (g s t).2 → PureTo P f [.v (.string s), .v (.string t)] (g s t).1) : SigsOK P ((f, .p (sigSS g)) :: SG) := by
  refine Go.Ev.sigs_cons h ?_
  intro ys r c hs hc
  unfold sigSS at hs
  split at hs
  · next s t => have e := Option.some.inj hs; have := hf s t; rw [e] at this; exact this hc
  · cases hs
theorem sigs_cons1 {P : Program} {SG : SGT} {f : FuncId} {g : ByteArray → AV × List Prop} (h : SigsOK P SG) (hf : ∀ s, AllP (g s).2 → PureTo P f [.v (.string s)] (g s).1) : SigsOK P ((f, .p (sigS g)) :: SG) := by
  refine Go.Ev.sigs_cons h ?_
  intro ys r c hs hc
  unfold sigS at hs
  split at hs
  · next s => have e := Option.some.inj hs; have := hf s; rw [e] at this; exact this hc
  · cases hs
theorem sigs_cons3 {P : Program} {SG : SGT} {f : FuncId} {g : ByteArray → ByteArray → Int → AV × List Prop} (h : SigsOK P SG) (hf : ∀ s t i, AllP (g s t i).2 → PureTo P f [.v (.string s), .v (.string t), .v (.int .i64 i)] (g s t i).1) : SigsOK P ((f, .p (sigSSI g)) :: SG) := by
  refine Go.Ev.sigs_cons h ?_
  intro ys r c hs hc
  unfold sigSSI at hs
  split at hs
  · next s t i => have e := Option.some.inj hs; have := hf s t i; rw [e] at this; exact this hc
  · cases hs

theorem sindex1 (s t : ByteArray) (h : AllP [s.size < 1048578, SM t]) : PureTo Tryd.prog 73 [.v (.string s), .v (.string t)] (AV.v (.int .i64 (idxB s t))) := by
  have hs : s.size < 4294967281 := by have := h.1; omega
  exact pure_of_calls2w (fn := Tryd.f73) rfl rfl (by kernel_rfl) trivial fun S hwf => Tryd.strings_Index s t MX.mx S.w hs (mx_cell hwf)

end Go.Proofs.Us

/- Texts: tables for Index: what was proved without MaxLen serves with it. -/
set_option maxRecDepth 100000
namespace Go.Proofs.Us
open Go Go.Ev Go.Lib
variable [mxi : MX]
theorem more_sig {SG : SGT} {f : FuncId} {sig : List AV → Option (AV × List Prop)} (h : Go.Ev.look SGD f = some (.p sig)) (hs : SigsOK Tryd.prog SG) : SigsOK Tryd.prog ((f, .p sig) :: SG) :=
  Go.Ev.sigs_cons hs fun ys r c h1 h2 => PureTo.more MX.mx (sokD f _ h ys r c h1 h2)
def SX4 : SGT := (63, .p (sigS fun s => (.v (.string (evn s)), [SZ s]))) :: (39, .p (sigS fun s => (.v (.int .i64 (ul s)), [SZ s]))) ::
  (73, .p (sigSS fun s t => (.v (.int .i64 (idxB s t)), [s.size < 1048578, SM t]))) :: []
theorem soX4 : SigsOK Tryd.prog SX4 := more_sig rfl (more_sig rfl (sigs_cons2 (fun f sig h => by cases h) fun s t h => sindex1 s t ⟨h.1, h.2.1, trivial⟩))
end Go.Proofs.Us

/- Texts: walks, written by the tool. -/
set_option maxRecDepth 100000
namespace Go.Proofs.Us
open Go Go.Ev
def uidxS0 [mxi : MX] (s t : ByteArray) (i : Int) (x0 : Int) : AS := { n := 39, fr := [(0, AV.v (.string (evn s))), (1, AV.v (.string (evn t))), (7, AV.v (.int .i64 x0))], hp := [], nx := 0 }
def uidxX0 [mxi : MX] (s t : ByteArray) (i : Int) (x1 : Int) : AS := { n := 39, fr := [(6, AV.v (.int .i64 x1))], hp := [], nx := 0 }
-- 3 paths
theorem uidxL0_1 [mxi : MX] (s t : ByteArray) (i : Int) (x0 : Int) (h : AllP [(0 : Int) ≤ x0 ∧ x0 ≤ (↑(evn s).size : Int), ((evn s).extract x0.toNat (evn s).size).size < 1048578, SM (evn t), decide (idxB ((evn s).extract x0.toNat (evn s).size) (evn t) < (0 : Int)) = true]) : To Tryd.prog (loopAt Tryd.f46 0) ({ n := 39, fr := [(0, AV.v (.string (evn s))), (1, AV.v (.string (evn t))), (7, AV.v (.int .i64 x0))], hp := [], nx := 0 }) (Exit.ret) { n := 39, fr := [(6, AV.v (.int .i64 (-1 : Int)))], hp := [], nx := 0 } :=
  evW_to hm soX4 (hs := [CHint.ops 7 [(1, Hint.b true)]]) (slots := [6]) (keys := []) (nx := 0) (c := _) (by kernel_rfl) h
theorem uidxL0_2 [mxi : MX] (s t : ByteArray) (i : Int) (x0 : Int) (h : AllP [(0 : Int) ≤ x0 ∧ x0 ≤ (↑(evn s).size : Int), ((evn s).extract x0.toNat (evn s).size).size < 1048578, SM (evn t), decide (idxB ((evn s).extract x0.toNat (evn s).size) (evn t) < (0 : Int)) = false, (2 : Int) ≠ (0 : Int), ((idxB ((evn s).extract x0.toNat (evn s).size) (evn t)).tmod (2 : Int) == (0 : Int)) = true, inR IntKind.i64 (x0 + idxB ((evn s).extract x0.toNat (evn s).size) (evn t)), (2 : Int) ≠ (0 : Int), inR IntKind.i64 ((x0 + idxB ((evn s).extract x0.toNat (evn s).size) (evn t)).tdiv (2 : Int))]) : To Tryd.prog (loopAt Tryd.f46 0) ({ n := 39, fr := [(0, AV.v (.string (evn s))), (1, AV.v (.string (evn t))), (7, AV.v (.int .i64 x0))], hp := [], nx := 0 }) (Exit.ret) { n := 39, fr := [(6, AV.v (.int .i64 ((x0 + idxB ((evn s).extract x0.toNat (evn s).size) (evn t)).tdiv (2 : Int))))], hp := [], nx := 0 } :=
  evW_to hm soX4 (hs := [CHint.ops 7 [(1, Hint.b false)], CHint.ops 9 [(2, Hint.b true)]]) (slots := [6]) (keys := []) (nx := 0) (c := _) (by kernel_rfl) h
theorem uidxL0_3 [mxi : MX] (s t : ByteArray) (i : Int) (x0 : Int) (h : AllP [(0 : Int) ≤ x0 ∧ x0 ≤ (↑(evn s).size : Int), ((evn s).extract x0.toNat (evn s).size).size < 1048578, SM (evn t), decide (idxB ((evn s).extract x0.toNat (evn s).size) (evn t) < (0 : Int)) = false, (2 : Int) ≠ (0 : Int), ((idxB ((evn s).extract x0.toNat (evn s).size) (evn t)).tmod (2 : Int) == (0 : Int)) = false, inR IntKind.i64 (idxB ((evn s).extract x0.toNat (evn s).size) (evn t) + (1 : Int)), inR IntKind.i64 (x0 + (idxB ((evn s).extract x0.toNat (evn s).size) (evn t) + (1 : Int)))]) : To Tryd.prog (loopAt Tryd.f46 0) ({ n := 39, fr := [(0, AV.v (.string (evn s))), (1, AV.v (.string (evn t))), (7, AV.v (.int .i64 x0))], hp := [], nx := 0 }) (.normal) { n := 39, fr := [(0, AV.v (.string (evn s))), (1, AV.v (.string (evn t))), (7, AV.v (.int .i64 (x0 + (idxB ((evn s).extract x0.toNat (evn s).size) (evn t) + (1 : Int)))))], hp := [], nx := 0 } :=
  evW_to hm soX4 (hs := [CHint.ops 7 [(1, Hint.b false)], CHint.ops 9 [(2, Hint.b false)]]) (slots := [0, 1, 7]) (keys := []) (nx := 0) (c := _) (by kernel_rfl) h
-- 2 paths
theorem uidxF1 [mxi : MX] (s t : ByteArray) (i : Int) (x1 : Int) (h : AllP [SZ s, SZ t, SZ (evn s), decide ((if (0 : Int) > i then (0 : Int) else i) > (↑(ul (evn s)) : Int)) = true]) : PureTo Tryd.prog 46 [.v (.string s), .v (.string t), .v (.int .i64 i)] (AV.v (.int .i64 (-1 : Int))) :=
  evFn_pure hm soX4 (fn := Tryd.f46) rfl rfl (ti := false) (hs := [CHint.ops 3 [(3, Hint.b true)]]) (c := _) (by kernel_rfl) h
theorem uidxF2 [mxi : MX] (s t : ByteArray) (i : Int) (x1 : Int) (h : AllP [SZ s, SZ t, SZ (evn s), decide ((if (0 : Int) > i then (0 : Int) else i) > (↑(ul (evn s)) : Int)) = false, inR IntKind.i64 ((2 : Int) * if (0 : Int) > i then (0 : Int) else i), LoopTo Tryd.prog (loopAt Tryd.f46 0) { n := 39, fr := [(0, AV.v (.string (evn s))), (1, AV.v (.string (evn t))), (7, AV.v (.int .i64 ((2 : Int) * if (0 : Int) > i then (0 : Int) else i)))], hp := [], nx := 0 } Exit.ret { n := 39, fr := [(6, AV.v (.int .i64 x1))], hp := [], nx := 0 }]) : PureTo Tryd.prog 46 [.v (.string s), .v (.string t), .v (.int .i64 i)] (AV.v (.int .i64 x1)) :=
  evFn_pure hm soX4 (fn := Tryd.f46) rfl rfl (ti := false) (hs := [CHint.ops 3 [(3, Hint.b false)], CHint.loop [0, 1, 7] [] 0 Exit.ret { n := 39, fr := [(6, AV.v (.int .i64 x1))], hp := [], nx := 0 }]) (c := _) (by kernel_rfl) h
end Go.Proofs.Us

/- Texts: ustr.Index. -/
set_option maxRecDepth 100000
namespace Go.Proofs.Us
open Go Go.Ev Go.Lib

theorem stands_occ {s t : ByteArray} {j : Nat} (hj : j ≤ ul s) : stands s t j = occAt (evn s).data.toList (evn t).data.toList (2 * j) := by
  have z1 := evn_size s
  have z2 := evn_size t
  by_cases h : j + ul t ≤ ul s
  · rw [stands_in h]
    have e1 : ((2 : Int) * (j : Int)).toNat = 2 * j := by omega
    have e2 : ((2 : Int) * (j : Int) + (↑(evn t).size : Int)).toNat = 2 * j + (evn t).size := by omega
    rw [e1, e2]
    show ((((evn s).extract (2 * j) (2 * j + (evn t).size)).toList) == (evn t).toList) = _
    cases c : (((evn s).extract (2 * j) (2 * j + (evn t).size)).toList) == (evn t).toList with
    | true => exact (occ_yes (evn s) (evn t) (2 * j) (by omega) c).symm
    | false => exact (occ_no (evn s) (evn t) (2 * j) (by omega) c).symm
  · rw [stands_out (by omega)]
    cases ho : occAt (evn s).data.toList (evn t).data.toList (2 * j) with
    | false => rfl
    | true =>
      rcases occAt_room ho with h' | h'
      · rw [len_data, len_data] at h'; omega
      · have := len_data (evn t)
        rw [h'] at this
        simp at this
        omega

theorem idxG_none {s t : ByteArray} : ∀ f m : Nat, (∀ j : Nat, m ≤ j → j ≤ ul s → stands s t j = false) → idxG s t f m = -1
  | 0, _, _ => rfl
  | f + 1, m, h => by
    unfold idxG
    split
    · next hm =>
      rw [h m (Nat.le_refl _) hm]
      simpa using idxG_none f (m + 1) fun j h1 h2 => h j (by omega) h2
    · rfl
theorem idxG_at {s t : ByteArray} {p : Nat} (hp : p ≤ ul s) (hs : stands s t p = true) : ∀ f m : Nat, m ≤ p → p < m + f → (∀ j : Nat, m ≤ j → j < p → stands s t j = false) → idxG s t f m = p
  | 0, m, h1, h2, _ => by omega
  | f + 1, m, h1, h2, h => by
    unfold idxG
    rw [if_pos (by omega)]
    by_cases e : m = p
    · rw [e, hs]; rfl
    · rw [h m (Nat.le_refl _) (by omega)]
      simpa using idxG_at hp hs f (m + 1) (by omega) (by omega) fun j h3 h4 => h j (by omega) h4

variable [mxi : MX]

theorem uidx_loop {s t : ByteArray} (i : Int) (i0 : Nat) (hs : s.size + 1 ≤ 1048576) (ht : SM t) : ∀ k m : Nat, ul s + 1 ≤ m + k → i0 ≤ m → m ≤ ul s → (∀ j : Nat, i0 ≤ j → j < m → stands s t j = false) →
    LoopTo Tryd.prog (loopAt Tryd.f46 0) (uidxS0 s t i ((2 : Int) * (m : Int))) .ret (uidxX0 s t i (idxG s t (ul s + 1) i0)) := by
  intro k
  induction k with
  | zero => intro m h1 _ h2 _; omega
  | succ k ih =>
    intro m h1 h2 h3 hn
    have z1 := evn_size s
    have z2 := evn_size t
    have hu : 2 * ul s ≤ s.size := by unfold ul; omega
    have hut : 2 * ul t ≤ t.size := by unfold ul; omega
    have ht' := ht
    unfold SM at ht'
    have e1 : ((2 : Int) * (m : Int)).toNat = 2 * m := by omega
    have q1 : (0 : Int) ≤ (2 : Int) * (m : Int) ∧ (2 : Int) * (m : Int) ≤ (↑(evn s).size : Int) := ⟨by omega, by omega⟩
    have q2 : ((evn s).extract (2 * m) (evn s).size).size < 1048578 := by rw [ByteArray.size_extract]; omega
    have q3 := evn_SM ht
    have p1 := uidxL0_1 s t i ((2 : Int) * (m : Int))
    have p2 := uidxL0_2 s t i ((2 : Int) * (m : Int))
    have p3 := uidxL0_3 s t i ((2 : Int) * (m : Int))
    rw [e1] at p1 p2 p3
    have he : ((evn s).extract (2 * m) (evn s).size).data.toList = (evn s).data.toList.drop (2 * m) := by
      rw [Lib.extract_data, List.take_of_length_le (by rw [List.length_drop, len_data]; exact Nat.le_refl _)]
    have hx : idxB ((evn s).extract (2 * m) (evn s).size) (evn t) = Lib.index ((evn s).data.toList.drop (2 * m)) (evn t).data.toList := by unfold idxB; rw [he]
    rw [hx] at p1 p2 p3
    rcases index_spec ((evn s).data.toList.drop (2 * m)) (evn t).data.toList with ⟨c1, c2⟩ | ⟨o, c1, c2, c3, c4⟩
    · rw [c1] at p1
      have e : idxG s t (ul s + 1) i0 = -1 := by
        refine idxG_none _ _ fun j hj hj2 => ?_
        by_cases hjm : j < m
        · exact hn j hj hjm
        · rw [stands_occ hj2]
          have := c2 (2 * j - 2 * m) (by rw [List.length_drop, len_data]; omega)
          rw [occ_drop, show 2 * m + (2 * j - 2 * m) = 2 * j from by omega] at this
          exact this
      rw [e]
      exact .done (by simp) (p1 ⟨q1, q2, q3, by decide, trivial⟩)
    · rw [occ_drop] at c3
      have hbefore : ∀ j : Nat, i0 ≤ j → 2 * j < 2 * m + o → j ≤ ul s → stands s t j = false := by
        intro j hj hjo hju
        by_cases hjm : j < m
        · exact hn j hj hjm
        · rw [stands_occ hju]
          have := c4 (2 * j - 2 * m) (by omega)
          rw [occ_drop, show 2 * m + (2 * j - 2 * m) = 2 * j from by omega] at this
          exact this
      rw [List.length_drop, len_data] at c2
      rw [c1] at p2 p3
      have d1 : decide ((o : Int) < 0) = false := by simp
      rcases Nat.mod_two_eq_zero_or_one o with ho | ho
      · have d2 : ((o : Int).tmod 2 == 0) = true := by rw [Int.tmod_eq_emod_of_nonneg (by omega)]; simp; omega
        have hpu : m + o / 2 ≤ ul s := by omega
        have hst : stands s t ((m + o / 2 : Nat) : Int) = true := by
          rw [stands_occ hpu, show 2 * (m + o / 2) = 2 * m + o from by omega]; exact c3
        have e : idxG s t (ul s + 1) i0 = ((m + o / 2 : Nat) : Int) := idxG_at hpu hst _ _ (by omega) (by omega) fun j hj hj2 => hbefore j hj (by omega) (by omega)
        have ev : ((2 : Int) * (m : Int) + (o : Int)).tdiv 2 = ((m + o / 2 : Nat) : Int) := by rw [Int.tdiv_eq_ediv_of_nonneg (by omega)]; omega
        have q := p2 ⟨q1, q2, q3, d1, by decide, d2, by simp only [inR]; omega, by decide, by rw [ev]; simp only [inR]; omega, trivial⟩
        rw [ev, ← e] at q
        exact .done (by simp) q
      · have d2 : ((o : Int).tmod 2 == 0) = false := by rw [Int.tmod_eq_emod_of_nonneg (by omega)]; simp; omega
        have hroom : 2 * m + o + (evn t).size ≤ (evn s).size ∧ 1 ≤ (evn t).size := by
          rcases occAt_room c3 with h | h
          · rw [len_data, len_data] at h
            refine ⟨h, ?_⟩
            by_cases hz : (evn t).size = 0
            · exfalso
              have hl : (evn t).data.toList = [] := List.eq_nil_of_length_eq_zero (by rw [len_data, hz])
              have := c4 0 (by omega)
              rw [hl] at this
              unfold occAt at this
              simp [List.isPrefixOf] at this
            · omega
          · exfalso
            have := c4 0 (by omega)
            rw [h] at this
            unfold occAt at this
            simp [List.isPrefixOf] at this
        have st := p3 ⟨q1, q2, q3, d1, by decide, d2, by simp only [inR]; omega, by simp only [inR]; omega, trivial⟩
        have ev : (2 : Int) * (m : Int) + ((o : Int) + 1) = (2 : Int) * ((m + (o + 1) / 2 : Nat) : Int) := by omega
        rw [ev] at st
        exact .step st (ih (m + (o + 1) / 2) (by omega) (by omega) (by omega) fun j hj hj2 => hbefore j hj (by omega) (by omega))

theorem uidx_c {s t : ByteArray} {i : Int} (hs : s.size + 1 ≤ 1048576) (ht : SM t) : PureTo Tryd.prog 46 [.v (.string s), .v (.string t), .v (.int .i64 i)] (.v (.int .i64 (idxS s t i))) := by
  have ms : SM s := by unfold SM; omega
  have hu : 2 * ul s ≤ s.size := by unfold ul; omega
  have ei : (if (0 : Int) > i then (0 : Int) else i) = (i.toNat : Int) := by split <;> omega
  have F1 := uidxF1 (s := s) (t := t) (i := i) (x1 := 0)
  have F2 := fun x1 => uidxF2 (s := s) (t := t) (i := i) (x1 := x1)
  simp only [ei, evn_ul] at F1 F2
  have b1 := (evn_SM ms).sz
  unfold idxS
  by_cases c : i.toNat ≤ ul s
  · exact F2 _ ⟨ms.sz, ht.sz, b1, by simp; omega, by simp only [inR]; omega, uidx_loop i i.toNat hs ht (ul s + 1) i.toNat (by omega) (Nat.le_refl _) c (fun j h1 h2 => by omega), trivial⟩
  · rw [idxG_none _ _ fun j h1 h2 => by omega]
    exact F1 ⟨ms.sz, ht.sz, b1, by simp; omega, trivial⟩
end Go.Proofs.Us

/- Texts: the table for the law of places. -/
set_option maxRecDepth 100000
namespace Go.Proofs.Us
open Go Go.Ev Go.Lib
variable [mxi : MX]
theorem compare_eq (s t : ByteArray) : Us.compare s t = cmpS s t := by rw [cmpS_eq]; rfl
def SX5 : SGT := (16, .p (sigNo (.v (.bool true)))) :: (47, .p (sigSSI fun s t i => (.v (.int .i64 (idxS s t i)), [SM s, SM t]))) ::
  (48, .p (sigSSI fun s t i => (.v (.int .i64 (lastS s t i)), [SM s, SM t]))) :: (49, .p (sigSSI fun s t i => (.v (.int .i64 (lastS s t i)), [SM s, SM t]))) :: (51, .p (sigSS fun s t => (.v (.int .i64 (cmpS s t)), [SM s, SM t]))) ::
  (50, .p (sigSS fun s t => (.v (.int .i64 (cmpS s t)), [SZ s, SZ t]))) :: (46, .p (sigSSI fun s t i => (.v (.int .i64 (idxS s t i)), [s.size + 1 ≤ 1048576, SM t]))) :: []
theorem soX5 : SigsOK Tryd.prog SX5 :=
  more_sig rfl (more_sig rfl (more_sig rfl (more_sig rfl (more_sig rfl (sigs_cons2 (sigs_cons3 (fun f sig h => by cases h) fun s t i h => uidx_c h.1 h.2.1) fun s t h => by
    have := PureTo.more MX.mx (compare_pure s t ⟨h.1, h.2.1, trivial⟩)
    rw [compare_eq] at this
    exact this)))))
end Go.Proofs.Us

/- Texts: the table for Split. -/
set_option maxRecDepth 100000
namespace Go.Proofs.Us
open Go Go.Ev Go.Lib
variable [mxi : MX]
def SX6 : SGT := (63, .p (sigS fun s => (.v (.string (evn s)), [SZ s]))) :: (39, .p (sigS fun s => (.v (.int .i64 (ul s)), [SZ s]))) :: (19, .p (sigS fun s => (.v (.int .i64 (ul s)), [SZ s]))) ::
  (22, .p (sigSII fun s i j => (.v (.string (slice s i j)), [SZ s]))) :: SX5
theorem soX6 : SigsOK Tryd.prog SX6 := more_sig rfl (more_sig rfl (more_sig rfl (more_sig rfl soX5)))
end Go.Proofs.Us

/- Texts: walks, written by the tool. -/
set_option maxRecDepth 100000
namespace Go.Proofs.Us
open Go Go.Ev
def splitS0 [mxi : MX] (s t : ByteArray) (x0 : Int) (n0 : Nat) (q0 : List ByteArray) : AS := { n := 58, fr := [(0, AV.v (.string (evn s))), (5, AV.row 7 0 q0.length q0.length false), (16, AV.v (.int .i64 (↑(ul (evn s)) : Int))), (17, AV.v (.int .i64 x0))], hp := [(7, AObj.row 9 1 (Seq.strs q0) n0)], nx := 8 }
def splitX0 [mxi : MX] (s t : ByteArray) (n1 : Nat) (q1 : List ByteArray) : AS := { n := 58, fr := [(5, AV.row 7 0 q1.length q1.length false)], hp := [(7, AObj.row 9 1 (Seq.strs q1) n1)], nx := 8 }
def splitS1 [mxi : MX] (s t : ByteArray) (x1 : Int) (n2 : Nat) (q2 : List ByteArray) : AS := { n := 58, fr := [(0, AV.v (.string (evn s))), (1, AV.v (.string (evn t))), (5, AV.row 7 0 q2.length q2.length false), (7, AV.v (.int .i64 x1))], hp := [(7, AObj.row 9 1 (Seq.strs q2) n2)], nx := 8 }
def splitX1 [mxi : MX] (s t : ByteArray)  : AS := { n := 58, fr := [(4, AV.v (.slice none 0 0))], hp := [], nx := 8 }
def rsplitS0 [mxi : MX] (s t : ByteArray) (x0 : Int) (n0 : Nat) (q0 : List ByteArray) : AS := { n := 55, fr := [(0, AV.v (.string s)), (5, AV.row 1 0 q0.length q0.length false), (6, AV.v (.int .i64 x0))], hp := [(1, AObj.row 9 1 (Seq.strs q0) n0)], nx := 2 }
def rsplitX0 [mxi : MX] (s t : ByteArray) (n1 : Nat) (q1 : List ByteArray) : AS := { n := 55, fr := [(5, AV.row 1 0 q1.length q1.length false)], hp := [(1, AObj.row 9 1 (Seq.strs q1) n1)], nx := 2 }
def rsplitS1 [mxi : MX] (s t : ByteArray) (x1 : Int) (x2 : Int) (n2 : Nat) (q2 : List ByteArray) : AS := { n := 55, fr := [(0, AV.v (.string s)), (1, AV.v (.string t)), (5, AV.row 1 0 q2.length q2.length false), (7, AV.v (.int .i64 x1)), (8, AV.v (.int .i64 x2))], hp := [(1, AObj.row 9 1 (Seq.strs q2) n2)], nx := 2 }
def rsplitX1 [mxi : MX] (s t : ByteArray) (x3 : Int) (n3 : Nat) (q3 : List ByteArray) : AS := { n := 55, fr := [(0, AV.v (.string s)), (5, AV.row 1 0 q3.length q3.length false), (7, AV.v (.int .i64 x3))], hp := [(1, AObj.row 9 1 (Seq.strs q3) n3)], nx := 2 }
-- 2 paths
theorem splitL0_1 [mxi : MX] (s t : ByteArray) (x0 : Int) (n0 : Nat) (q0 : List ByteArray) (h : AllP [decide (x0 < (↑(ul (evn s)) : Int)) = true, inR IntKind.i64 ((2 : Int) * x0), inR IntKind.i64 ((2 : Int) * x0), inR IntKind.i64 ((2 : Int) * x0 + (2 : Int)), (0 : Int) ≤ (2 : Int) * x0 + (2 : Int) ∧ (2 : Int) * x0 + (2 : Int) ≤ (↑(evn s).size : Int), (0 : Int) ≤ (2 : Int) * x0 ∧ (2 : Int) * x0 ≤ (↑((2 : Int) * x0 + (2 : Int)).toNat : Int), q0.length = q0.length, q0.length = q0.length, (q0 ++ [(evn s).extract ((2 : Int) * x0).toNat ((2 : Int) * x0 + (2 : Int)).toNat]).length * 16 ≤ 140737488355328, inR IntKind.i64 (x0 + (1 : Int))]) : To Tryd.prog (loopAt Tryd.f55 0) ({ n := 58, fr := [(0, AV.v (.string (evn s))), (5, AV.row 7 0 q0.length q0.length false), (16, AV.v (.int .i64 (↑(ul (evn s)) : Int))), (17, AV.v (.int .i64 x0))], hp := [(7, AObj.row 9 1 (Seq.strs q0) n0)], nx := 8 }) (.normal) { n := 58, fr := [(0, AV.v (.string (evn s))), (5, AV.row 7 0 (q0 ++ [(evn s).extract ((2 : Int) * x0).toNat ((2 : Int) * x0 + (2 : Int)).toNat]).length (q0 ++ [(evn s).extract ((2 : Int) * x0).toNat ((2 : Int) * x0 + (2 : Int)).toNat]).length false), (16, AV.v (.int .i64 (↑(ul (evn s)) : Int))), (17, AV.v (.int .i64 (x0 + (1 : Int))))], hp := [(7, AObj.row 9 1 (Seq.strs (q0 ++ [(evn s).extract ((2 : Int) * x0).toNat ((2 : Int) * x0 + (2 : Int)).toNat])) n0)], nx := 8 } :=
  evW_to hm soX6 (hs := [CHint.ops 5 [(0, Hint.b true)]]) (slots := [0, 5, 16, 17]) (keys := [7]) (nx := 8) (c := _) (by kernel_rfl) h
theorem splitL0_2 [mxi : MX] (s t : ByteArray) (x0 : Int) (n0 : Nat) (q0 : List ByteArray) (h : AllP [decide (x0 < (↑(ul (evn s)) : Int)) = false]) : To Tryd.prog (loopAt Tryd.f55 0) ({ n := 58, fr := [(0, AV.v (.string (evn s))), (5, AV.row 7 0 q0.length q0.length false), (16, AV.v (.int .i64 (↑(ul (evn s)) : Int))), (17, AV.v (.int .i64 x0))], hp := [(7, AObj.row 9 1 (Seq.strs q0) n0)], nx := 8 }) (Exit.exit 0) { n := 58, fr := [(5, AV.row 7 0 q0.length q0.length false)], hp := [(7, AObj.row 9 1 (Seq.strs q0) n0)], nx := 8 } :=
  evW_to hm soX6 (hs := [CHint.ops 5 [(0, Hint.b false)]]) (slots := [5]) (keys := [7]) (nx := 8) (c := _) (by kernel_rfl) h
-- 2 paths
theorem splitL1_1 [mxi : MX] (s t : ByteArray) (x1 : Int) (n2 : Nat) (q2 : List ByteArray) (h : AllP [(evn s).size + 1 ≤ 1048576, SM (evn t), decide (idxS (evn s) (evn t) x1 < (0 : Int)) = true, inR IntKind.i64 ((2 : Int) * x1), (0 : Int) ≤ (2 : Int) * x1 ∧ (2 : Int) * x1 ≤ (↑(evn s).size : Int), q2.length = q2.length, q2.length = q2.length, (q2 ++ [(evn s).extract ((2 : Int) * x1).toNat (evn s).size]).length * 16 ≤ 140737488355328]) : To Tryd.prog (loopAt Tryd.f55 1) ({ n := 58, fr := [(0, AV.v (.string (evn s))), (1, AV.v (.string (evn t))), (5, AV.row 7 0 q2.length q2.length false), (7, AV.v (.int .i64 x1))], hp := [(7, AObj.row 9 1 (Seq.strs q2) n2)], nx := 8 }) (Exit.ret) { n := 58, fr := [(4, AV.row 7 0 (q2 ++ [(evn s).extract ((2 : Int) * x1).toNat (evn s).size]).length (q2 ++ [(evn s).extract ((2 : Int) * x1).toNat (evn s).size]).length false)], hp := [(7, AObj.row 9 1 (Seq.strs (q2 ++ [(evn s).extract ((2 : Int) * x1).toNat (evn s).size])) n2)], nx := 8 } :=
  evW_to hm soX6 (hs := [CHint.ops 12 [(1, Hint.b true)]]) (slots := [4]) (keys := [7]) (nx := 8) (c := _) (by kernel_rfl) h
theorem splitL1_2 [mxi : MX] (s t : ByteArray) (x1 : Int) (n2 : Nat) (q2 : List ByteArray) (h : AllP [(evn s).size + 1 ≤ 1048576, SM (evn t), decide (idxS (evn s) (evn t) x1 < (0 : Int)) = false, inR IntKind.i64 ((2 : Int) * x1), inR IntKind.i64 ((2 : Int) * idxS (evn s) (evn t) x1), (0 : Int) ≤ (2 : Int) * idxS (evn s) (evn t) x1 ∧ (2 : Int) * idxS (evn s) (evn t) x1 ≤ (↑(evn s).size : Int), (0 : Int) ≤ (2 : Int) * x1 ∧ (2 : Int) * x1 ≤ (↑((2 : Int) * idxS (evn s) (evn t) x1).toNat : Int), q2.length = q2.length, q2.length = q2.length, (q2 ++ [(evn s).extract ((2 : Int) * x1).toNat ((2 : Int) * idxS (evn s) (evn t) x1).toNat]).length * 16 ≤ 140737488355328, SZ (evn t), inR IntKind.i64 (idxS (evn s) (evn t) x1 + (↑(ul (evn t)) : Int))]) : To Tryd.prog (loopAt Tryd.f55 1) ({ n := 58, fr := [(0, AV.v (.string (evn s))), (1, AV.v (.string (evn t))), (5, AV.row 7 0 q2.length q2.length false), (7, AV.v (.int .i64 x1))], hp := [(7, AObj.row 9 1 (Seq.strs q2) n2)], nx := 8 }) (.normal) { n := 58, fr := [(0, AV.v (.string (evn s))), (1, AV.v (.string (evn t))), (5, AV.row 7 0 (q2 ++ [(evn s).extract ((2 : Int) * x1).toNat ((2 : Int) * idxS (evn s) (evn t) x1).toNat]).length (q2 ++ [(evn s).extract ((2 : Int) * x1).toNat ((2 : Int) * idxS (evn s) (evn t) x1).toNat]).length false), (7, AV.v (.int .i64 (idxS (evn s) (evn t) x1 + (↑(ul (evn t)) : Int))))], hp := [(7, AObj.row 9 1 (Seq.strs (q2 ++ [(evn s).extract ((2 : Int) * x1).toNat ((2 : Int) * idxS (evn s) (evn t) x1).toNat])) n2)], nx := 8 } :=
  evW_to hm soX6 (hs := [CHint.ops 12 [(1, Hint.b false)]]) (slots := [0, 1, 5, 7]) (keys := [7]) (nx := 8) (c := _) (by kernel_rfl) h
-- 2 paths
theorem splitF1 [mxi : MX] (s t : ByteArray) (n1 : Nat) (q1 : List ByteArray) (n3 : Nat) (q3 : List ByteArray) (h : AllP [SZ s, SZ t, ((evn t).toList == (ByteArray.mk #[]).toList) = true, SZ (evn s), LoopTo Tryd.prog (loopAt Tryd.f55 0) { n := 58, fr := [(0, AV.v (.string (evn s))), (5, AV.row 7 0 0 0 false), (16, AV.v (.int .i64 (↑(ul (evn s)) : Int))), (17, AV.v (.int .i64 (0 : Int)))], hp := [(7, AObj.row 9 1 (Seq.strs []) 0)], nx := 8 } (Exit.exit 0) { n := 58, fr := [(5, AV.row 7 0 q1.length q1.length false)], hp := [(7, AObj.row 9 1 (Seq.strs q1) n1)], nx := 8 }, q1.length = q1.length, n1 ≤ q1.length]) : PureTo Tryd.prog 55 [.v (.string s), .v (.string t)] (AV.sl 1 (Seq.strs q1) false) :=
  evFn_pure hm soX6 (fn := Tryd.f55) rfl rfl (ti := false) (hs := [CHint.ops 2 [(0, Hint.nil 9)], CHint.ops 3 [(1, Hint.b true)], CHint.loop [0, 5, 16, 17] [7] 8 (Exit.exit 0) { n := 58, fr := [(5, AV.row 7 0 q1.length q1.length false)], hp := [(7, AObj.row (9 : TypeId) 1 (Seq.strs q1) n1)], nx := 8 }]) (c := _) (by kernel_rfl) h
theorem splitF2 [mxi : MX] (s t : ByteArray) (n1 : Nat) (q1 : List ByteArray) (n3 : Nat) (q3 : List ByteArray) (h : AllP [SZ s, SZ t, ((evn t).toList == (ByteArray.mk #[]).toList) = false, LoopTo Tryd.prog (loopAt Tryd.f55 1) { n := 58, fr := [(0, AV.v (.string (evn s))), (1, AV.v (.string (evn t))), (5, AV.row 7 0 0 0 false), (7, AV.v (.int .i64 (0 : Int)))], hp := [(7, AObj.row 9 1 (Seq.strs []) 0)], nx := 8 } Exit.ret { n := 58, fr := [(4, AV.row 7 0 q3.length q3.length false)], hp := [(7, AObj.row 9 1 (Seq.strs q3) n3)], nx := 8 }, q3.length = q3.length, n3 ≤ q3.length]) : PureTo Tryd.prog 55 [.v (.string s), .v (.string t)] (AV.sl 1 (Seq.strs q3) false) :=
  evFn_pure hm soX6 (fn := Tryd.f55) rfl rfl (ti := false) (hs := [CHint.ops 2 [(0, Hint.nil 9)], CHint.ops 3 [(1, Hint.b false)], CHint.loop [0, 1, 5, 7] [7] 8 Exit.ret { n := 58, fr := [(4, AV.row 7 0 q3.length q3.length false)], hp := [(7, AObj.row (9 : TypeId) 1 (Seq.strs q3) n3)], nx := 8 }]) (c := _) (by kernel_rfl) h
-- 2 paths
theorem rsplitL0_1 [mxi : MX] (s t : ByteArray) (x0 : Int) (n0 : Nat) (q0 : List ByteArray) (h : AllP [SZ s, decide (x0 < (↑(ul s) : Int)) = true, inR IntKind.i64 (x0 + (1 : Int)), SZ s, q0.length = q0.length, q0.length = q0.length, (q0 ++ [slice s x0 (x0 + (1 : Int))]).length * 16 ≤ 140737488355328, inR IntKind.i64 (x0 + (1 : Int))]) : To Tryd.prog (loopAt Tryd.f56 0) ({ n := 55, fr := [(0, AV.v (.string s)), (5, AV.row 1 0 q0.length q0.length false), (6, AV.v (.int .i64 x0))], hp := [(1, AObj.row 9 1 (Seq.strs q0) n0)], nx := 2 }) (.normal) { n := 55, fr := [(0, AV.v (.string s)), (5, AV.row 1 0 (q0 ++ [slice s x0 (x0 + (1 : Int))]).length (q0 ++ [slice s x0 (x0 + (1 : Int))]).length false), (6, AV.v (.int .i64 (x0 + (1 : Int))))], hp := [(1, AObj.row 9 1 (Seq.strs (q0 ++ [slice s x0 (x0 + (1 : Int))])) n0)], nx := 2 } :=
  evW_to hm soX6 (hs := [CHint.ops 4 [(3, Hint.b true)]]) (slots := [0, 5, 6]) (keys := [1]) (nx := 2) (c := _) (by kernel_rfl) h
theorem rsplitL0_2 [mxi : MX] (s t : ByteArray) (x0 : Int) (n0 : Nat) (q0 : List ByteArray) (h : AllP [SZ s, decide (x0 < (↑(ul s) : Int)) = false]) : To Tryd.prog (loopAt Tryd.f56 0) ({ n := 55, fr := [(0, AV.v (.string s)), (5, AV.row 1 0 q0.length q0.length false), (6, AV.v (.int .i64 x0))], hp := [(1, AObj.row 9 1 (Seq.strs q0) n0)], nx := 2 }) (Exit.exit 0) { n := 55, fr := [(5, AV.row 1 0 q0.length q0.length false)], hp := [(1, AObj.row 9 1 (Seq.strs q0) n0)], nx := 2 } :=
  evW_to hm soX6 (hs := [CHint.ops 4 [(3, Hint.b false)]]) (slots := [5]) (keys := [1]) (nx := 2) (c := _) (by kernel_rfl) h
-- 2 paths
theorem rsplitL1_1 [mxi : MX] (s t : ByteArray) (x1 : Int) (x2 : Int) (n2 : Nat) (q2 : List ByteArray) (h : AllP [decide (x2 ≥ (0 : Int)) = true, SZ s, q2.length = q2.length, q2.length = q2.length, (q2 ++ [slice s x1 x2]).length * 16 ≤ 140737488355328, SZ t, inR IntKind.i64 (x2 + (↑(ul t) : Int)), SM s, SM t]) : To Tryd.prog (loopAt Tryd.f56 1) ({ n := 55, fr := [(0, AV.v (.string s)), (1, AV.v (.string t)), (5, AV.row 1 0 q2.length q2.length false), (7, AV.v (.int .i64 x1)), (8, AV.v (.int .i64 x2))], hp := [(1, AObj.row 9 1 (Seq.strs q2) n2)], nx := 2 }) (.normal) { n := 55, fr := [(0, AV.v (.string s)), (1, AV.v (.string t)), (5, AV.row 1 0 (q2 ++ [slice s x1 x2]).length (q2 ++ [slice s x1 x2]).length false), (7, AV.v (.int .i64 (x2 + (↑(ul t) : Int)))), (8, AV.v (.int .i64 (idxS s t (x2 + (↑(ul t) : Int)))))], hp := [(1, AObj.row 9 1 (Seq.strs (q2 ++ [slice s x1 x2])) n2)], nx := 2 } :=
  evW_to hm soX6 (hs := [CHint.ops 10 [(1, Hint.b true)]]) (slots := [0, 1, 5, 7, 8]) (keys := [1]) (nx := 2) (c := _) (by kernel_rfl) h
theorem rsplitL1_2 [mxi : MX] (s t : ByteArray) (x1 : Int) (x2 : Int) (n2 : Nat) (q2 : List ByteArray) (h : AllP [decide (x2 ≥ (0 : Int)) = false]) : To Tryd.prog (loopAt Tryd.f56 1) ({ n := 55, fr := [(0, AV.v (.string s)), (1, AV.v (.string t)), (5, AV.row 1 0 q2.length q2.length false), (7, AV.v (.int .i64 x1)), (8, AV.v (.int .i64 x2))], hp := [(1, AObj.row 9 1 (Seq.strs q2) n2)], nx := 2 }) (Exit.exit 2) { n := 55, fr := [(0, AV.v (.string s)), (5, AV.row 1 0 q2.length q2.length false), (7, AV.v (.int .i64 x1))], hp := [(1, AObj.row 9 1 (Seq.strs q2) n2)], nx := 2 } :=
  evW_to hm soX6 (hs := [CHint.ops 10 [(1, Hint.b false)]]) (slots := [0, 5, 7]) (keys := [1]) (nx := 2) (c := _) (by kernel_rfl) h
-- 2 paths
theorem rsplitF1 [mxi : MX] (s t : ByteArray) (x3 : Int) (n1 : Nat) (n3 : Nat) (q1 : List ByteArray) (q3 : List ByteArray) (h : AllP [SZ t, ((↑(ul t) : Int) == (0 : Int)) = true, LoopTo Tryd.prog (loopAt Tryd.f56 0) { n := 55, fr := [(0, AV.v (.string s)), (5, AV.row 1 0 0 0 false), (6, AV.v (.int .i64 (0 : Int)))], hp := [(1, AObj.row 9 1 (Seq.strs []) 0)], nx := 2 } (Exit.exit 0) { n := 55, fr := [(5, AV.row 1 0 q1.length q1.length false)], hp := [(1, AObj.row 9 1 (Seq.strs q1) n1)], nx := 2 }, q1.length = q1.length, n1 ≤ q1.length]) : PureTo Tryd.prog 56 [.v (.string s), .v (.string t)] (AV.sl 1 (Seq.strs q1) false) :=
  evFn_pure hm soX6 (fn := Tryd.f56) rfl rfl (ti := false) (hs := [CHint.ops 1 [(0, Hint.nil 9)], CHint.ops 2 [(2, Hint.b true)], CHint.loop [0, 5, 6] [1] 2 (Exit.exit 0) { n := 55, fr := [(5, AV.row 1 0 q1.length q1.length false)], hp := [(1, AObj.row (9 : TypeId) 1 (Seq.strs q1) n1)], nx := 2 }]) (c := _) (by kernel_rfl) h
theorem rsplitF2 [mxi : MX] (s t : ByteArray) (x3 : Int) (n1 : Nat) (n3 : Nat) (q1 : List ByteArray) (q3 : List ByteArray) (h : AllP [SZ t, ((↑(ul t) : Int) == (0 : Int)) = false, SM s, SM t, LoopTo Tryd.prog (loopAt Tryd.f56 1) { n := 55, fr := [(0, AV.v (.string s)), (1, AV.v (.string t)), (5, AV.row 1 0 0 0 false), (7, AV.v (.int .i64 (0 : Int))), (8, AV.v (.int .i64 (idxS s t (0 : Int))))], hp := [(1, AObj.row 9 1 (Seq.strs []) 0)], nx := 2 } (Exit.exit 2) { n := 55, fr := [(0, AV.v (.string s)), (5, AV.row 1 0 q3.length q3.length false), (7, AV.v (.int .i64 x3))], hp := [(1, AObj.row 9 1 (Seq.strs q3) n3)], nx := 2 }, SZ s, SZ s, q3.length = q3.length, q3.length = q3.length, (q3 ++ [slice s x3 (↑(ul s) : Int)]).length * 16 ≤ 140737488355328, (q3 ++ [slice s x3 (↑(ul s) : Int)]).length = (q3 ++ [slice s x3 (↑(ul s) : Int)]).length, n3 ≤ (q3 ++ [slice s x3 (↑(ul s) : Int)]).length]) : PureTo Tryd.prog 56 [.v (.string s), .v (.string t)] (AV.sl 1 (Seq.strs (q3 ++ [slice s x3 (↑(ul s) : Int)])) false) :=
  evFn_pure hm soX6 (fn := Tryd.f56) rfl rfl (ti := false) (hs := [CHint.ops 1 [(0, Hint.nil 9)], CHint.ops 2 [(2, Hint.b false)], CHint.loop [0, 1, 5, 7, 8] [1] 2 (Exit.exit 2) { n := 55, fr := [(0, AV.v (.string s)), (5, AV.row 1 0 q3.length q3.length false), (7, AV.v (.int .i64 x3))], hp := [(1, AObj.row (9 : TypeId) 1 (Seq.strs q3) n3)], nx := 2 }]) (c := _) (by kernel_rfl) h
end Go.Proofs.Us

/- Texts: Split, both. -/
set_option maxRecDepth 100000
namespace Go.Proofs.Us
open Go Go.Ev Go.Lib

theorem slice_at {s : ByteArray} {a b : Nat} (hab : a ≤ b) (hb : b ≤ ul s) : slice s a b = s.extract (2 * a) (2 * b) := by
  have e2 : (if (↑(ul s) : Int) < (b : Int) then (↑(ul s) : Int) else (b : Int)) = b := by rw [if_neg (by omega)]
  have e1 : (if (0 : Int) > (a : Int) then (0 : Int) else (a : Int)) = a := by rw [if_neg (by omega)]
  unfold slice
  rw [e1, e2]
  have t2 : ((2 : Int) * (b : Int)).toNat = 2 * b := by omega
  have t1 : ((2 : Int) * (a : Int)).toNat = 2 * a := by omega
  rw [t1, t2]
  by_cases h : a = b
  · subst h
    rw [show (!decide ((a : Int) ≤ (a : Int))) = false from by simp, cond_false]
    apply ByteArray.ext
    simp [ByteArray.data_extract]
  · rw [show (!decide ((b : Int) ≤ (a : Int))) = true from by simp; omega, cond_true]

theorem idxG_spec {s t : ByteArray} : ∀ f m : Nat, idxG s t f m = -1 ∨ ∃ p : Nat, idxG s t f m = p ∧ m ≤ p ∧ p ≤ ul s ∧ stands s t p = true
  | 0, _ => .inl rfl
  | f + 1, m => by
    unfold idxG
    split
    · next hm =>
      split
      · next hs => exact .inr ⟨m, rfl, Nat.le_refl _, hm, hs⟩
      · rcases idxG_spec (s := s) (t := t) f (m + 1) with h | ⟨p, h1, h2, h3, h4⟩
        · exact .inl h
        · exact .inr ⟨p, h1, by omega, h3, h4⟩
    · exact .inl rfl
theorem idxS_spec (s t : ByteArray) (a : Nat) : idxS s t a = -1 ∨ ∃ p : Nat, idxS s t a = p ∧ a ≤ p ∧ p + ul t ≤ ul s := by
  unfold idxS
  rcases idxG_spec (s := s) (t := t) (ul s + 1) (a : Int).toNat with h | ⟨p, h1, h2, h3, h4⟩
  · exact .inl h
  · refine .inr ⟨p, h1, by omega, ?_⟩
    by_cases c : p + ul t ≤ ul s
    · exact c
    · rw [stands_out (by omega)] at h4
      cases h4
theorem evn_evn (s : ByteArray) : evn (evn s) = evn s := by
  have h : (evn s).size = 2 * ul (evn s) := by rw [evn_size, evn_ul]
  show (evn s).extract 0 (2 * ul (evn s)) = evn s
  rw [← h]
  apply ByteArray.ext
  rw [ByteArray.data_extract]
  exact Array.extract_size
theorem stands_evn {s t : ByteArray} {j : Nat} (h : j ≤ ul s) : stands (evn s) (evn t) j = stands s t j := by
  rw [stands_occ h, stands_occ (s := evn s) (t := evn t) (by rw [evn_ul]; exact h), evn_evn, evn_evn]
theorem idxG_evn {s t : ByteArray} : ∀ f m : Nat, idxG (evn s) (evn t) f m = idxG s t f m
  | 0, _ => rfl
  | f + 1, m => by
    unfold idxG
    rw [evn_ul]
    split
    · next h => rw [stands_evn h, idxG_evn f (m + 1)]
    · rfl
theorem idxS_evn (s t : ByteArray) (i : Int) : idxS (evn s) (evn t) i = idxS s t i := by
  unfold idxS
  rw [evn_ul, idxG_evn]

/-- the parts from place a on, behind q -/
def partsG (s t : ByteArray) : Nat → Nat → List ByteArray → List ByteArray
  | 0, _, q => q
  | f + 1, a, q => if idxS s t a < 0 then q ++ [s.extract (2 * a) (2 * ul s)] else partsG s t f ((idxS s t a).toNat + ul t) (q ++ [s.extract (2 * a) (2 * (idxS s t a).toNat)])
/-- the units one by one -/
def singleG (s : ByteArray) : Nat → Nat → List ByteArray → List ByteArray
  | 0, _, q => q
  | f + 1, i, q => if i < ul s then singleG s f (i + 1) (q ++ [s.extract (2 * i) (2 * (i + 1))]) else q
def splitL (s t : ByteArray) : List ByteArray := if ul t = 0 then singleG s (ul s) 0 [] else partsG s t (ul s + 1) 0 []

variable [mxi : MX]

theorem room16 {n : Nat} (h : n ≤ 1048577) : n * 16 ≤ 140737488355328 := by omega

theorem split_l0 {s t : ByteArray} (hs : s.size + 1 ≤ 1048576) : ∀ f i : Nat, ∀ q n0, i + f = ul s → q.length = i → n0 ≤ q.length → ∃ n1, n1 ≤ (singleG s f i q).length ∧
    LoopTo Tryd.prog (loopAt Tryd.f55 0) (splitS0 s t i n0 q) (.exit 0) (splitX0 s t n1 (singleG s f i q))
  | 0, i, q, n0, h, hq, h0 => ⟨n0, h0, .done (by simp) (splitL0_2 s t i n0 q ⟨by rw [evn_ul]; simp; omega, trivial⟩)⟩
  | f + 1, i, q, n0, h, hq, h0 => by
    have hu : 2 * ul s ≤ s.size := by unfold ul; omega
    have z := evn_size s
    have e1 : ((2 : Int) * (i : Int)).toNat = 2 * i := by omega
    have e2 : ((2 : Int) * (i : Int) + 2).toNat = 2 * (i + 1) := by omega
    have p := splitL0_1 s t i n0 q
    rw [e1, e2, extract_evn (by omega)] at p
    have r : ∀ x : Int, 0 ≤ x → x ≤ 4194304 → inR .i64 x := fun x h1 h2 => by simp only [inR]; omega
    have st := p ⟨by rw [evn_ul]; simp; omega, r _ (by omega) (by omega), r _ (by omega) (by omega), r _ (by omega) (by omega), ⟨by omega, by omega⟩, ⟨by omega, by omega⟩, rfl, rfl, by rw [List.length_append]; exact room16 (by simp; omega), r _ (by omega) (by omega), trivial⟩
    have hg : singleG s (f + 1) i q = singleG s f (i + 1) (q ++ [s.extract (2 * i) (2 * (i + 1))]) := by
      show (if i < ul s then _ else _) = _
      rw [if_pos (by omega)]
    rw [hg]
    obtain ⟨n1, h1, hl⟩ := split_l0 hs f (i + 1) (q ++ [s.extract (2 * i) (2 * (i + 1))]) n0 (by omega) (by rw [List.length_append]; simp; omega) (by rw [List.length_append]; omega)
    exact ⟨n1, h1, .step st hl⟩

def splitR (l : List ByteArray) (n1 : Nat) : AS := { n := 58, fr := [(4, AV.row 7 0 l.length l.length false)], hp := [(7, AObj.row 9 1 (Seq.strs l) n1)], nx := 8 }
theorem split_l1 {s t : ByteArray} (hs : s.size + 1 ≤ 1048576) (ht : SM t) (ht1 : 1 ≤ ul t) : ∀ f a : Nat, ∀ q n0, ul s + 1 ≤ a + f → a ≤ ul s → q.length ≤ a → n0 ≤ q.length → ∃ n1, n1 ≤ (partsG s t f a q).length ∧
    LoopTo Tryd.prog (loopAt Tryd.f55 1) (splitS1 s t a n0 q) .ret (splitR (partsG s t f a q) n1)
  | 0, a, q, n0, h, ha, _, _ => by omega
  | f + 1, a, q, n0, h, ha, hq, h0 => by
    have hu : 2 * ul s ≤ s.size := by unfold ul; omega
    have z := evn_size s
    have e1 : ((2 : Int) * (a : Int)).toNat = 2 * a := by omega
    have r : ∀ x : Int, 0 ≤ x → x ≤ 4194304 → inR .i64 x := fun x h1 h2 => by simp only [inR]; omega
    have b1 : (evn s).size + 1 ≤ 1048576 := by omega
    have b2 := evn_SM ht
    have p1 := splitL1_1 s t a n0 q
    have p2 := splitL1_2 s t a n0 q
    rw [e1, idxS_evn] at p1 p2
    have hg : partsG s t (f + 1) a q = if idxS s t a < 0 then q ++ [s.extract (2 * a) (2 * ul s)] else partsG s t f ((idxS s t a).toNat + ul t) (q ++ [s.extract (2 * a) (2 * (idxS s t a).toNat)]) := rfl
    rw [hg]
    rcases idxS_spec s t a with e | ⟨p, e, h1, h2⟩
    · rw [e] at p1
      rw [e, if_pos (by omega)]
      rw [z, extract_evn (Nat.le_refl _)] at p1
      exact ⟨n0, by rw [List.length_append]; omega, .done (by simp) (p1 ⟨by omega, b2, by decide, r _ (by omega) (by omega), ⟨by omega, by omega⟩, rfl, rfl, by rw [List.length_append]; exact room16 (by simp; omega), trivial⟩)⟩
    · rw [e] at p2
      rw [e, if_neg (by omega), Int.toNat_natCast]
      have e2 : ((2 : Int) * (p : Int)).toNat = 2 * p := by omega
      rw [e2, extract_evn (by omega)] at p2
      have st := p2 ⟨b1, b2, by simp, r _ (by omega) (by omega), r _ (by omega) (by omega), ⟨by omega, by omega⟩, ⟨by omega, by omega⟩, rfl, rfl, by rw [List.length_append]; exact room16 (by simp; omega), (evn_SM ht).sz, by rw [evn_ul]; exact r _ (by omega) (by omega), trivial⟩
      rw [evn_ul] at st
      obtain ⟨n1, h3, hl⟩ := split_l1 hs ht ht1 f (p + ul t) (q ++ [s.extract (2 * a) (2 * p)]) n0 (by omega) h2 (by rw [List.length_append]; simp; omega) (by rw [List.length_append]; omega)
      exact ⟨n1, h3, .step st hl⟩

theorem rsplit_l0 {s t : ByteArray} (hs : s.size + 1 ≤ 1048576) : ∀ f i : Nat, ∀ q n0, i + f = ul s → q.length = i → n0 ≤ q.length → ∃ n1, n1 ≤ (singleG s f i q).length ∧
    LoopTo Tryd.prog (loopAt Tryd.f56 0) (rsplitS0 s t i n0 q) (.exit 0) (rsplitX0 s t n1 (singleG s f i q))
  | 0, i, q, n0, h, hq, h0 => ⟨n0, h0, .done (by simp) (rsplitL0_2 s t i n0 q ⟨(show SM s by unfold SM; omega).sz, by simp; omega, trivial⟩)⟩
  | f + 1, i, q, n0, h, hq, h0 => by
    have ms : SM s := by unfold SM; omega
    have hu : 2 * ul s ≤ s.size := by unfold ul; omega
    have r : ∀ x : Int, 0 ≤ x → x ≤ 4194304 → inR .i64 x := fun x h1 h2 => by simp only [inR]; omega
    have e : slice s (i : Int) ((i : Int) + 1) = s.extract (2 * i) (2 * (i + 1)) := slice_at (s := s) (a := i) (b := i + 1) (by omega) (by omega)
    have p := rsplitL0_1 s t i n0 q
    rw [e] at p
    have st := p ⟨ms.sz, by simp; omega, r _ (by omega) (by omega), ms.sz, rfl, rfl, by rw [List.length_append]; exact room16 (by simp; omega), r _ (by omega) (by omega), trivial⟩
    have hg : singleG s (f + 1) i q = singleG s f (i + 1) (q ++ [s.extract (2 * i) (2 * (i + 1))]) := by
      show (if i < ul s then _ else _) = _
      rw [if_pos (by omega)]
    rw [hg]
    obtain ⟨n1, h1, hl⟩ := rsplit_l0 (t := t) hs f (i + 1) (q ++ [s.extract (2 * i) (2 * (i + 1))]) n0 (by omega) (by rw [List.length_append]; simp; omega) (by rw [List.length_append]; omega)
    exact ⟨n1, h1, .step st hl⟩

theorem rsplit_l1 {s t : ByteArray} (hs : s.size + 1 ≤ 1048576) (ht : SM t) (ht1 : 1 ≤ ul t) : ∀ f a : Nat, ∀ q n0, ul s + 1 ≤ a + f → a ≤ ul s → q.length ≤ a → n0 ≤ q.length →
    ∃ (a' : Nat) (q' : List ByteArray) (n1 : Nat), n1 ≤ q'.length ∧ a' ≤ ul s ∧ q'.length ≤ a' ∧ LoopTo Tryd.prog (loopAt Tryd.f56 1) (rsplitS1 s t a (idxS s t a) n0 q) (.exit 2) (rsplitX1 s t a' n1 q') ∧ partsG s t f a q = q' ++ [s.extract (2 * a') (2 * ul s)]
  | 0, a, q, n0, h, ha, _, _ => by omega
  | f + 1, a, q, n0, h, ha, hq, h0 => by
    have ms : SM s := by unfold SM; omega
    have hu : 2 * ul s ≤ s.size := by unfold ul; omega
    have r : ∀ x : Int, 0 ≤ x → x ≤ 4194304 → inR .i64 x := fun x h1 h2 => by simp only [inR]; omega
    have hg : partsG s t (f + 1) a q = if idxS s t a < 0 then q ++ [s.extract (2 * a) (2 * ul s)] else partsG s t f ((idxS s t a).toNat + ul t) (q ++ [s.extract (2 * a) (2 * (idxS s t a).toNat)]) := rfl
    rw [hg]
    rcases idxS_spec s t a with e | ⟨p, e, h1, h2⟩
    · rw [e, if_pos (by omega)]
      exact ⟨a, q, n0, h0, ha, hq, .done (by simp) (rsplitL1_2 s t a (-1) n0 q ⟨by decide, trivial⟩), rfl⟩
    · rw [e, if_neg (by omega), Int.toNat_natCast]
      have es : slice s (a : Int) (p : Int) = s.extract (2 * a) (2 * p) := slice_at h1 (by omega)
      have p1 := rsplitL1_1 s t a (p : Int) n0 q
      rw [es] at p1
      have st := p1 ⟨by simp, ms.sz, rfl, rfl, by rw [List.length_append]; exact room16 (by simp; omega), ht.sz, r _ (by omega) (by omega), ms, ht, trivial⟩
      obtain ⟨a', q', n1, h3, h4, h5, hl, h6⟩ := rsplit_l1 hs ht ht1 f (p + ul t) (q ++ [s.extract (2 * a) (2 * p)]) n0 (by omega) h2 (by rw [List.length_append]; simp; omega) (by rw [List.length_append]; omega)
      exact ⟨a', q', n1, h3, h4, h5, .step st hl, h6⟩
end Go.Proofs.Us

/- Texts: Split, both: the contract. -/
set_option maxRecDepth 100000
namespace Go.Proofs.Us
open Go Go.Ev Go.Lib
variable [mxi : MX]

theorem evn_empty (t : ByteArray) : ((evn t).toList == (ByteArray.mk #[]).toList) = decide (ul t = 0) := by
  have z := evn_size t
  rw [Bool.eq_iff_iff, beq_iff_eq, decide_eq_true_eq, Lib.toList_data, Lib.toList_data]
  constructor
  · intro h
    have := len_data (evn t)
    rw [h] at this
    simp at this
    omega
  · intro h
    have := len_data (evn t)
    rw [z, h] at this
    exact List.eq_nil_of_length_eq_zero (by simpa using this)

theorem split_c {s t : ByteArray} (hs : s.size + 1 ≤ 1048576) (ht : SM t) : PureTo Tryd.prog 55 [.v (.string s), .v (.string t)] (.sl 1 (.strs (splitL s t)) false) := by
  have ms : SM s := by unfold SM; omega
  have c := evn_empty t
  unfold splitL
  by_cases h : ul t = 0
  · rw [if_pos h]
    obtain ⟨n1, h1, hl⟩ := split_l0 (t := t) hs (ul s) 0 [] 0 (by omega) rfl (Nat.le_refl _)
    exact splitF1 (s := s) (t := t) (n1 := n1) (q1 := singleG s (ul s) 0 []) (n3 := 0) (q3 := []) (h := ⟨ms.sz, ht.sz, by rw [c]; simpa using h, (evn_SM ms).sz, hl, rfl, h1, trivial⟩)
  · rw [if_neg h]
    obtain ⟨n1, h1, hl⟩ := split_l1 hs ht (by omega) (ul s + 1) 0 [] 0 (by omega) (by omega) (Nat.le_refl _) (Nat.le_refl _)
    exact splitF2 (s := s) (t := t) (n1 := 0) (q1 := []) (n3 := n1) (q3 := partsG s t (ul s + 1) 0 []) (h := ⟨ms.sz, ht.sz, by rw [c]; simpa using h, hl, rfl, h1, trivial⟩)
theorem rsplit_c {s t : ByteArray} (hs : s.size + 1 ≤ 1048576) (ht : SM t) : PureTo Tryd.prog 56 [.v (.string s), .v (.string t)] (.sl 1 (.strs (splitL s t)) false) := by
  have ms : SM s := by unfold SM; omega
  have hu : 2 * ul s ≤ s.size := by unfold ul; omega
  unfold splitL
  by_cases h : ul t = 0
  · rw [if_pos h]
    obtain ⟨n1, h1, hl⟩ := rsplit_l0 (t := t) hs (ul s) 0 [] 0 (by omega) rfl (Nat.le_refl _)
    exact rsplitF1 (s := s) (t := t) (x3 := 0) (n1 := n1) (n3 := 0) (q1 := singleG s (ul s) 0 []) (q3 := []) (h := ⟨ht.sz, by simp [h], hl, rfl, h1, trivial⟩)
  · rw [if_neg h]
    obtain ⟨a', q', n1, h1, h2, h3, hl, e⟩ := rsplit_l1 hs ht (by omega) (ul s + 1) 0 [] 0 (by omega) (by omega) (Nat.le_refl _) (Nat.le_refl _)
    have p := rsplitF2 (s := s) (t := t) (x3 := (a' : Int)) (n1 := 0) (n3 := n1) (q1 := []) (q3 := q')
    rw [slice_at h2 (Nat.le_refl _), ← e] at p
    exact p ⟨ht.sz, by simp [h], ms, ht, hl, ms.sz, ms.sz, rfl, rfl, by rw [e, List.length_append]; exact room16 (by simp; omega), rfl, by rw [e, List.length_append]; omega, trivial⟩
end Go.Proofs.Us

/- Texts: the table for Builder: a pointer handed back as it is. -/
set_option maxRecDepth 100000
namespace Go.Ev
open Go

/-- a function without a body that hands its argument back: objects stay as they are -/
theorem same_extern [Globs] {P : Program} {f : FuncId} {fn : Func} (hf : P.funcs[f]? = some fn) (hname : (fn.name == "runtime.NumGoroutine") = false)
    (hb : fn.body.isNone = true) (hn : Extern.findNext fn = none) (he : Extern.find fn = some Extern.AbiNoEscape.same) (os : List AObj) (x : AV) : SharedTo P f os [x] x os := by
  intro S vals hwf hO hU hv
  obtain ⟨h1, h2⟩ := hv
  match vals, h1 with
  | [v], _ =>
    have hr := h2 0 (by simp) (by simp)
    simp only [List.getElem_cons_zero] at hr
    unfold CalledTo
    rw [run_callFunc_extern hf hname hb hn he, show ([v] : List Value).toArray = #[v] from rfl, show (Extern.AbiNoEscape.same #[v]).run P S.w = .ok v S.w from rfl, Result.andThen_ok]
    exact ⟨S, rfl, hwf, Kept.refl S, hO, hr⟩

end Go.Ev
namespace Go.Proofs.Us
open Go Go.Ev Go.Lib
variable [mxi : MX]

def sigNE : List AObj → List AV → Option (AV × List AObj × List Prop)
  | os, [.ptr k 0] => some (.ptr k 0, os, [])
  | _, _ => none

def SB0 : SGT := (97, .s [true] sigNE) :: SX6

theorem soB0 : SigsOK Tryd.prog SB0 := by
  refine sigs_s soX6 ?_
  intro os ys r os' c h _
  unfold sigNE at h
  split at h
  · cases h
    exact same_extern (fn := Tryd.f97) rfl (by kernel_rfl) (by kernel_rfl) (by kernel_rfl) (by kernel_rfl) _ _
  · cases h

end Go.Proofs.Us

/- Texts: walks, written by the tool. -/
set_option maxRecDepth 100000
namespace Go.Proofs.Us
open Go Go.Ev

-- 1 paths
theorem ccA1 [mxi : MX] (h : AllP []) : SharedTo Tryd.prog 88 [.cells 65 [.v (.pointer none), .v (.slice none 0 0)]] [.ptr rsv 0] (AV.tup []) [AObj.cells 65 [AV.ptr 4294967296 0, AV.v (.slice none 0 0)]] :=
  evFn_shared hm soB0 (fn := Tryd.f88) rfl rfl (ti := false) (ex := []) (hs := []) (c := _) (by kernel_rfl) h
-- 1 paths
theorem ccB1 [mxi : MX] (h : AllP []) : SharedTo Tryd.prog 88 [.cells 65 [.ptr rsv 0, .v (.slice none 0 0)]] [.ptr rsv 0] (AV.tup []) [AObj.cells 65 [AV.ptr 4294967296 0, AV.v (.slice none 0 0)]] :=
  evFn_shared hm soB0 (fn := Tryd.f88) rfl rfl (ti := false) (ex := []) (hs := []) (c := _) (by kernel_rfl) h
-- 1 paths
theorem ccC1 [mxi : MX] (q : List Int) (n fl : Nat) (h : AllP []) : SharedTo Tryd.prog 88 [.cells 65 [.ptr rsv 0, .row (rsv + 1) 0 n n false], .row 5 1 (.ints .u8 q) fl] [.ptr rsv 0] (AV.tup []) [AObj.cells 65 [AV.ptr 4294967296 0, AV.row 4294967297 0 n n false], AObj.row 5 1 (.ints .u8 q) fl] :=
  evFn_shared hm soB0 (fn := Tryd.f88) rfl rfl (ti := false) (ex := []) (hs := []) (c := _) (by kernel_rfl) h
end Go.Proofs.Us

/- Texts: the table for Builder: the look at copies. -/
set_option maxRecDepth 100000
namespace Go.Proofs.Us
open Go Go.Ev
variable [mxi : MX]

def sigCC : List AObj → List AV → Option (AV × List AObj × List Prop)
  | [.cells 65 [.v (.pointer none), .v (.slice none 0 0)]], [.ptr k 0] => some (.tup [], [.cells 65 [.ptr rsv 0, .v (.slice none 0 0)]], [k = rsv])
  | [.cells 65 [.ptr j 0, .v (.slice none 0 0)]], [.ptr k 0] => some (.tup [], [.cells 65 [.ptr rsv 0, .v (.slice none 0 0)]], [k = rsv, j = rsv])
  | [.cells 65 [.ptr j 0, .row i 0 n m false], .row 5 1 (.ints .u8 q) fl], [.ptr k 0] => some (.tup [], [.cells 65 [.ptr rsv 0, .row (rsv + 1) 0 n m false], .row 5 1 (.ints .u8 q) fl], [k = rsv, j = rsv, i = rsv + 1, m = n])
  | _, _ => none

def SB1 : SGT := (88, .s [true] sigCC) :: SB0

theorem soB1 : SigsOK Tryd.prog SB1 := by
  refine sigs_s soB0 ?_
  intro os ys r os' c h hc
  unfold sigCC at h
  split at h
  · cases h
    obtain ⟨rfl, _⟩ := hc
    exact ccA1 trivial
  · cases h
    obtain ⟨rfl, rfl, _⟩ := hc
    exact ccB1 trivial
  · cases h
    obtain ⟨rfl, rfl, rfl, rfl, _⟩ := hc
    exact ccC1 _ _ _ trivial
  · cases h

end Go.Proofs.Us

/- Texts: walks, written by the tool. -/
set_option maxRecDepth 100000
namespace Go.Proofs.Us
open Go Go.Ev

-- 1 paths
theorem wsA1 [mxi : MX] (s : ByteArray) (h : AllP [4294967296 = rsv, (intsOfStr s).length * 1 ≤ 140737488355328]) : SharedTo Tryd.prog 77 [.cells 65 [.v (.pointer none), .v (.slice none 0 0)]] [.ptr rsv 0, .v (.string s)] (AV.tup [AV.v (.int .i64 (↑s.size : Int)), AV.v Value.nilIface]) [AObj.cells 65 [AV.ptr 4294967296 0, AV.row 4294967297 0 (intsOfStr s).length (intsOfStr s).length false], AObj.row 5 1 (.ints .u8 (intsOfStr s)) 0] :=
  evFn_shared hm soB1 (fn := Tryd.f77) rfl rfl (ti := false) (ex := [10]) (hs := []) (c := _) (by kernel_rfl) h
-- 1 paths
theorem wsB1 [mxi : MX] (s : ByteArray) (h : AllP [4294967296 = rsv, 4294967296 = rsv, (intsOfStr s).length * 1 ≤ 140737488355328]) : SharedTo Tryd.prog 77 [.cells 65 [.ptr rsv 0, .v (.slice none 0 0)]] [.ptr rsv 0, .v (.string s)] (AV.tup [AV.v (.int .i64 (↑s.size : Int)), AV.v Value.nilIface]) [AObj.cells 65 [AV.ptr 4294967296 0, AV.row 4294967297 0 (intsOfStr s).length (intsOfStr s).length false], AObj.row 5 1 (.ints .u8 (intsOfStr s)) 0] :=
  evFn_shared hm soB1 (fn := Tryd.f77) rfl rfl (ti := false) (ex := [10]) (hs := []) (c := _) (by kernel_rfl) h
-- 1 paths
theorem wsC1 [mxi : MX] (s : ByteArray) (q : List Int) (n fl : Nat) (h : AllP [4294967296 = rsv, 4294967296 = rsv, 4294967297 = 4294967297, n = n, n = q.length, n = q.length, (q ++ intsOfStr s).length * 1 ≤ 140737488355328]) : SharedTo Tryd.prog 77 [.cells 65 [.ptr rsv 0, .row (rsv + 1) 0 n n false], .row 5 1 (.ints .u8 q) fl] [.ptr rsv 0, .v (.string s)] (AV.tup [AV.v (.int .i64 (↑s.size : Int)), AV.v Value.nilIface]) [AObj.cells 65 [AV.ptr 4294967296 0, AV.row 4294967297 0 (q ++ intsOfStr s).length (q ++ intsOfStr s).length false], AObj.row 5 1 (.ints .u8 (q ++ intsOfStr s)) q.length] :=
  evFn_shared hm soB1 (fn := Tryd.f77) rfl rfl (ti := false) (ex := []) (hs := []) (c := _) (by kernel_rfl) h
-- 1 paths
theorem weA1 [mxi : MX] (s : ByteArray) (h : AllP [4294967296 = rsv, s.size = 0]) : SharedTo Tryd.prog 77 [.cells 65 [.v (.pointer none), .v (.slice none 0 0)]] [.ptr rsv 0, .v (.string s)] (AV.tup [AV.v (.int .i64 (↑s.size : Int)), AV.v Value.nilIface]) [AObj.cells 65 [AV.ptr 4294967296 0, AV.v (.slice none 0 0)]] :=
  evFn_shared hm soB1 (fn := Tryd.f77) rfl rfl (ti := false) (ex := []) (hs := [CHint.ops 2 [(6, Hint.part)]]) (c := _) (by kernel_rfl) h
-- 1 paths
theorem weB1 [mxi : MX] (s : ByteArray) (h : AllP [4294967296 = rsv, 4294967296 = rsv, s.size = 0]) : SharedTo Tryd.prog 77 [.cells 65 [.ptr rsv 0, .v (.slice none 0 0)]] [.ptr rsv 0, .v (.string s)] (AV.tup [AV.v (.int .i64 (↑s.size : Int)), AV.v Value.nilIface]) [AObj.cells 65 [AV.ptr 4294967296 0, AV.v (.slice none 0 0)]] :=
  evFn_shared hm soB1 (fn := Tryd.f77) rfl rfl (ti := false) (ex := []) (hs := [CHint.ops 2 [(6, Hint.part)]]) (c := _) (by kernel_rfl) h
-- 1 paths
theorem stA1 [mxi : MX] (h : AllP [(0 : Int) = (0 : Int)]) : SharedTo Tryd.prog 78 [.cells 65 [.v (.pointer none), .v (.slice none 0 0)]] [.ptr rsv 0] (AV.v (.string ByteArray.empty)) [AObj.cells 65 [AV.v (.pointer none), AV.v (.slice none 0 0)]] :=
  evFn_shared hm soB1 (fn := Tryd.f78) rfl rfl (ti := false) (ex := []) (hs := []) (c := _) (by kernel_rfl) h
-- 1 paths
theorem stB1 [mxi : MX] (h : AllP [(0 : Int) = (0 : Int)]) : SharedTo Tryd.prog 78 [.cells 65 [.ptr rsv 0, .v (.slice none 0 0)]] [.ptr rsv 0] (AV.v (.string ByteArray.empty)) [AObj.cells 65 [AV.ptr 4294967296 0, AV.v (.slice none 0 0)]] :=
  evFn_shared hm soB1 (fn := Tryd.f78) rfl rfl (ti := false) (ex := []) (hs := []) (c := _) (by kernel_rfl) h
-- 1 paths
theorem stC1 [mxi : MX] (q : List Int) (n fl : Nat) (h : AllP [0 < n, n = q.length, 0 < q.length, (↑n : Int) = (↑q.length : Int), q.length ≤ 9223372036854775807, ∀ (x : Int), x ∈ q → (0 : Int) ≤ x ∧ x ≤ (255 : Int)]) : SharedTo Tryd.prog 78 [.cells 65 [.ptr rsv 0, .row (rsv + 1) 0 n n false], .row 5 1 (.ints .u8 q) fl] [.ptr rsv 0] (AV.v (.string (strOfInts q))) [AObj.cells 65 [AV.ptr 4294967296 0, AV.row 4294967297 0 n n false], AObj.row 5 1 (Seq.frz q) fl] :=
  evFn_shared hm soB1 (fn := Tryd.f78) rfl rfl (ti := false) (ex := []) (hs := []) (c := _) (by kernel_rfl) h
end Go.Proofs.Us

/- Texts: the tables for Builder: what is written, what it comes to. -/
set_option maxRecDepth 100000
namespace Go.Proofs.Us
open Go Go.Ev
variable [mxi : MX]

def wrote (s : ByteArray) : AV := .tup [.v (.int .i64 s.size), .v .nilIface]

def sigWS : List AObj → List AV → Option (AV × List AObj × List Prop)
  | [.cells 65 [.v (.pointer none), .v (.slice none 0 0)]], [.ptr k 0, .v (.string s)] =>
    some (wrote s, [.cells 65 [.ptr rsv 0, .row (rsv + 1) 0 (intsOfStr s).length (intsOfStr s).length false], .row 5 1 (.ints .u8 (intsOfStr s)) 0], [k = rsv, (intsOfStr s).length ≤ 140737488355328])
  | [.cells 65 [.ptr j 0, .v (.slice none 0 0)]], [.ptr k 0, .v (.string s)] =>
    some (wrote s, [.cells 65 [.ptr rsv 0, .row (rsv + 1) 0 (intsOfStr s).length (intsOfStr s).length false], .row 5 1 (.ints .u8 (intsOfStr s)) 0], [k = rsv, j = rsv, (intsOfStr s).length ≤ 140737488355328])
  | [.cells 65 [.ptr j 0, .row i 0 n m false], .row 5 1 (.ints .u8 q) _], [.ptr k 0, .v (.string s)] =>
    some (wrote s, [.cells 65 [.ptr rsv 0, .row (rsv + 1) 0 (q ++ intsOfStr s).length (q ++ intsOfStr s).length false], .row 5 1 (.ints .u8 (q ++ intsOfStr s)) q.length], [k = rsv, j = rsv, i = rsv + 1, m = n, n = q.length, (q ++ intsOfStr s).length ≤ 140737488355328])
  | _, _ => none

/-- nothing written into what holds nothing -/
def sigWE : List AObj → List AV → Option (AV × List AObj × List Prop)
  | [.cells 65 [.v (.pointer none), .v (.slice none 0 0)]], [.ptr k 0, .v (.string s)] => some (wrote s, [.cells 65 [.ptr rsv 0, .v (.slice none 0 0)]], [k = rsv, s.size = 0])
  | [.cells 65 [.ptr j 0, .v (.slice none 0 0)]], [.ptr k 0, .v (.string s)] => some (wrote s, [.cells 65 [.ptr rsv 0, .v (.slice none 0 0)]], [k = rsv, j = rsv, s.size = 0])
  | _, _ => none

def sigST : List AObj → List AV → Option (AV × List AObj × List Prop)
  | [.cells 65 [.v (.pointer none), .v (.slice none 0 0)]], [.ptr k 0] => some (.v (.string ByteArray.empty), [.cells 65 [.v (.pointer none), .v (.slice none 0 0)]], [k = rsv])
  | [.cells 65 [.ptr j 0, .v (.slice none 0 0)]], [.ptr k 0] => some (.v (.string ByteArray.empty), [.cells 65 [.ptr rsv 0, .v (.slice none 0 0)]], [k = rsv, j = rsv])
  | [.cells 65 [.ptr j 0, .row i 0 n m false], .row 5 1 (.ints .u8 q) fl], [.ptr k 0] =>
    some (.v (.string (strOfInts q)), [.cells 65 [.ptr rsv 0, .row (rsv + 1) 0 n m false], .row 5 1 (.frz q) fl], [k = rsv, j = rsv, i = rsv + 1, m = n, n = q.length, 0 < q.length, q.length ≤ 9223372036854775807, ∀ x ∈ q, 0 ≤ x ∧ x ≤ 255])
  | _, _ => none

theorem sigWS_ok : ∀ os ys r os' c, sigWS os ys = some (r, os', c) → AllP c → SharedTo Tryd.prog 77 os ys r os' := by
  intro os ys r os' c h hc
  unfold sigWS at h
  split at h
  · cases h
    obtain ⟨rfl, h1, _⟩ := hc
    exact wsA1 _ ⟨rfl, by omega, trivial⟩
  · cases h
    obtain ⟨rfl, rfl, h1, _⟩ := hc
    exact wsB1 _ ⟨rfl, rfl, by omega, trivial⟩
  · cases h
    obtain ⟨rfl, rfl, rfl, rfl, h1, h2, _⟩ := hc
    exact wsC1 _ _ _ _ ⟨rfl, rfl, rfl, rfl, h1, h1, by omega, trivial⟩
  · cases h

theorem sigWE_ok : ∀ os ys r os' c, sigWE os ys = some (r, os', c) → AllP c → SharedTo Tryd.prog 77 os ys r os' := by
  intro os ys r os' c h hc
  unfold sigWE at h
  split at h
  · cases h
    obtain ⟨rfl, h1, _⟩ := hc
    exact weA1 _ ⟨rfl, h1, trivial⟩
  · cases h
    obtain ⟨rfl, rfl, h1, _⟩ := hc
    exact weB1 _ ⟨rfl, rfl, h1, trivial⟩
  · cases h

theorem sigST_ok : ∀ os ys r os' c, sigST os ys = some (r, os', c) → AllP c → SharedTo Tryd.prog 78 os ys r os' := by
  intro os ys r os' c h hc
  unfold sigST at h
  split at h
  · cases h
    obtain ⟨rfl, _⟩ := hc
    exact stA1 ⟨rfl, trivial⟩
  · cases h
    obtain ⟨rfl, rfl, _⟩ := hc
    exact stB1 ⟨rfl, trivial⟩
  · cases h
    obtain ⟨rfl, rfl, rfl, rfl, h1, h2, h3, h4, _⟩ := hc
    exact stC1 _ _ _ ⟨by omega, h1, h2, by omega, h3, h4, trivial⟩
  · cases h

def SB2 : SGT := (77, .s [true, false] sigWS) :: (78, .s [true] sigST) :: SB1
def SB3 : SGT := (77, .s [true, false] sigWE) :: (78, .s [true] sigST) :: SB1
theorem soB2 : SigsOK Tryd.prog SB2 := sigs_s (sigs_s soB1 sigST_ok) sigWS_ok
theorem soB3 : SigsOK Tryd.prog SB3 := sigs_s (sigs_s soB1 sigST_ok) sigWE_ok

end Go.Proofs.Us

/- Texts: walks, written by the tool. -/
set_option maxRecDepth 100000
namespace Go.Proofs.Us
open Go Go.Ev
def jA0 [mxi : MX] (l : List ByteArray) (t : ByteArray) (tl : Bool) (i : Int) : AS := { n := 25, fr := [(1, AV.v (.string t)), (5, AV.ptr 1 0), (8, AV.sl 1 (.strs l) tl), (9, AV.v (.int .i64 (↑l.length : Int))), (10, AV.v (.int .i64 i))], hp := [(1, AObj.cells 65 [AV.v (.pointer none), AV.v (.slice none 0 0)])], nx := 5 }
def jA1 [mxi : MX] (l : List ByteArray) (t : ByteArray) (tl : Bool) (i : Int) : AS := { n := 25, fr := [(1, AV.v (.string t)), (5, AV.ptr 1 0), (8, AV.sl 1 (.strs l) tl), (9, AV.v (.int .i64 (↑l.length : Int))), (10, AV.v (.int .i64 i))], hp := [(1, AObj.cells 65 [AV.ptr 1 0, AV.v (.slice none 0 0)])], nx := 5 }
def jA1b [mxi : MX] (l : List ByteArray) (t : ByteArray) (tl : Bool) (i : Int) : AS := { n := 25, fr := [(1, AV.v (.string t)), (5, AV.ptr 1 0), (8, AV.sl 1 (.strs l) tl), (9, AV.v (.int .i64 (↑l.length : Int))), (10, AV.v (.int .i64 i))], hp := [(1, AObj.cells 65 [AV.ptr 1 0, AV.v (.slice none 0 0)])], nx := 2 }
def jA2 [mxi : MX] (l : List ByteArray) (t : ByteArray) (tl : Bool) (i : Int) (q : List Int) (fl : Nat) : AS := { n := 25, fr := [(1, AV.v (.string t)), (5, AV.ptr 1 0), (8, AV.sl 1 (.strs l) tl), (9, AV.v (.int .i64 (↑l.length : Int))), (10, AV.v (.int .i64 i))], hp := [(1, AObj.cells 65 [AV.ptr 1 0, AV.row 15 0 q.length q.length false]), (15, AObj.row 5 1 (.ints .u8 q) fl)], nx := 16 }
def jX0 [mxi : MX] (l : List ByteArray) (t : ByteArray) (tl : Bool) : AS := { n := 25, fr := [(5, AV.ptr 1 0)], hp := [(1, AObj.cells 65 [AV.v (.pointer none), AV.v (.slice none 0 0)])], nx := 5 }
def jX1 [mxi : MX] (l : List ByteArray) (t : ByteArray) (tl : Bool) : AS := { n := 25, fr := [(5, AV.ptr 1 0)], hp := [(1, AObj.cells 65 [AV.ptr 1 0, AV.v (.slice none 0 0)])], nx := 5 }
def jX2 [mxi : MX] (l : List ByteArray) (t : ByteArray) (tl : Bool) (q : List Int) (fl : Nat) : AS := { n := 25, fr := [(5, AV.ptr 1 0)], hp := [(1, AObj.cells 65 [AV.ptr 1 0, AV.row 15 0 q.length q.length false]), (15, AObj.row 5 1 (.ints .u8 q) fl)], nx := 16 }
-- 3 paths
theorem joA0_1 [mxi : MX] (l : List ByteArray) (t : ByteArray) (tl : Bool) (i : Int) (h : AllP [decide (i < (↑l.length : Int)) = true, (0 : Int) ≤ i ∧ i < (↑l.length : Int), decide (i > (0 : Int)) = true, SZ t, 4294967296 = rsv, (intsOfStr (evn t)).length ≤ 140737488355328, SZ (l.getD i.toNat ByteArray.empty), 4294967296 = rsv, 4294967296 = rsv, 4294967297 = 4294967297, (intsOfStr (evn t)).length = (intsOfStr (evn t)).length, (intsOfStr (evn t)).length = (intsOfStr (evn t)).length, (intsOfStr (evn t) ++ intsOfStr (evn (l.getD i.toNat ByteArray.empty))).length ≤ 140737488355328, inR IntKind.i64 (i + (1 : Int))]) : To Tryd.prog (loopAt Tryd.f57 0) ({ n := 25, fr := [(1, AV.v (.string t)), (5, AV.ptr 1 0), (8, AV.sl 1 (.strs l) tl), (9, AV.v (.int .i64 (↑l.length : Int))), (10, AV.v (.int .i64 i))], hp := [(1, AObj.cells 65 [AV.v (.pointer none), AV.v (.slice none 0 0)])], nx := 5 }) (.normal) { n := 25, fr := [(1, AV.v (.string t)), (5, AV.ptr 1 0), (8, AV.sl 1 (Seq.strs l) tl), (9, AV.v (.int .i64 (↑l.length : Int))), (10, AV.v (.int .i64 (i + (1 : Int))))], hp := [(1, AObj.cells 65 [AV.ptr 1 0, AV.row 15 0 (intsOfStr (evn t) ++ intsOfStr (evn (l.getD i.toNat ByteArray.empty))).length (intsOfStr (evn t) ++ intsOfStr (evn (l.getD i.toNat ByteArray.empty))).length false]), (15, AObj.row 5 1 (.ints .u8 (intsOfStr (evn t) ++ intsOfStr (evn (l.getD i.toNat ByteArray.empty)))) (intsOfStr (evn t) ++ intsOfStr (evn (l.getD i.toNat ByteArray.empty))).length)], nx := 16 } :=
  evW_to hm soB2 (hs := [CHint.ops 3 [(0, Hint.b true)], CHint.ops 5 [(1, Hint.b true)]]) (slots := [1, 5, 8, 9, 10]) (keys := [1, 15]) (nx := 16) (c := _) (by kernel_rfl) h
theorem joA0_2 [mxi : MX] (l : List ByteArray) (t : ByteArray) (tl : Bool) (i : Int) (h : AllP [decide (i < (↑l.length : Int)) = true, (0 : Int) ≤ i ∧ i < (↑l.length : Int), decide (i > (0 : Int)) = false, SZ (l.getD i.toNat ByteArray.empty), 4294967296 = rsv, (intsOfStr (evn (l.getD i.toNat ByteArray.empty))).length ≤ 140737488355328, inR IntKind.i64 (i + (1 : Int))]) : To Tryd.prog (loopAt Tryd.f57 0) ({ n := 25, fr := [(1, AV.v (.string t)), (5, AV.ptr 1 0), (8, AV.sl 1 (.strs l) tl), (9, AV.v (.int .i64 (↑l.length : Int))), (10, AV.v (.int .i64 i))], hp := [(1, AObj.cells 65 [AV.v (.pointer none), AV.v (.slice none 0 0)])], nx := 5 }) (.normal) { n := 25, fr := [(1, AV.v (.string t)), (5, AV.ptr 1 0), (8, AV.sl 1 (Seq.strs l) tl), (9, AV.v (.int .i64 (↑l.length : Int))), (10, AV.v (.int .i64 (i + (1 : Int))))], hp := [(1, AObj.cells 65 [AV.ptr 1 0, AV.row 15 0 (intsOfStr (evn (l.getD i.toNat ByteArray.empty))).length (intsOfStr (evn (l.getD i.toNat ByteArray.empty))).length false]), (15, AObj.row 5 1 (.ints .u8 (intsOfStr (evn (l.getD i.toNat ByteArray.empty)))) (intsOfStr (evn (l.getD i.toNat ByteArray.empty))).length)], nx := 16 } :=
  evW_to hm soB2 (hs := [CHint.ops 3 [(0, Hint.b true)], CHint.ops 5 [(1, Hint.b false)]]) (slots := [1, 5, 8, 9, 10]) (keys := [1, 15]) (nx := 16) (c := _) (by kernel_rfl) h
theorem joA0_3 [mxi : MX] (l : List ByteArray) (t : ByteArray) (tl : Bool) (i : Int) (h : AllP [decide (i < (↑l.length : Int)) = false]) : To Tryd.prog (loopAt Tryd.f57 0) ({ n := 25, fr := [(1, AV.v (.string t)), (5, AV.ptr 1 0), (8, AV.sl 1 (.strs l) tl), (9, AV.v (.int .i64 (↑l.length : Int))), (10, AV.v (.int .i64 i))], hp := [(1, AObj.cells 65 [AV.v (.pointer none), AV.v (.slice none 0 0)])], nx := 5 }) (Exit.exit 0) { n := 25, fr := [(5, AV.ptr 1 0)], hp := [(1, AObj.cells 65 [AV.v (.pointer none), AV.v (.slice none 0 0)])], nx := 5 } :=
  evW_to hm soB2 (hs := [CHint.ops 3 [(0, Hint.b false)]]) (slots := [5]) (keys := [1]) (nx := 5) (c := _) (by kernel_rfl) h
-- 3 paths
theorem joA0e_1 [mxi : MX] (l : List ByteArray) (t : ByteArray) (tl : Bool) (i : Int) (h : AllP [decide (i < (↑l.length : Int)) = true, (0 : Int) ≤ i ∧ i < (↑l.length : Int), decide (i > (0 : Int)) = true, SZ t, 4294967296 = rsv, (evn t).size = 0, SZ (l.getD i.toNat ByteArray.empty), 4294967296 = rsv, 4294967296 = rsv, (evn (l.getD i.toNat ByteArray.empty)).size = 0, inR IntKind.i64 (i + (1 : Int))]) : To Tryd.prog (loopAt Tryd.f57 0) ({ n := 25, fr := [(1, AV.v (.string t)), (5, AV.ptr 1 0), (8, AV.sl 1 (.strs l) tl), (9, AV.v (.int .i64 (↑l.length : Int))), (10, AV.v (.int .i64 i))], hp := [(1, AObj.cells 65 [AV.v (.pointer none), AV.v (.slice none 0 0)])], nx := 5 }) (.normal) { n := 25, fr := [(1, AV.v (.string t)), (5, AV.ptr 1 0), (8, AV.sl 1 (Seq.strs l) tl), (9, AV.v (.int .i64 (↑l.length : Int))), (10, AV.v (.int .i64 (i + (1 : Int))))], hp := [(1, AObj.cells 65 [AV.ptr 1 0, AV.v (.slice none 0 0)])], nx := 5 } :=
  evW_to hm soB3 (hs := [CHint.ops 3 [(0, Hint.b true)], CHint.ops 5 [(1, Hint.b true)]]) (slots := [1, 5, 8, 9, 10]) (keys := [1]) (nx := 5) (c := _) (by kernel_rfl) h
theorem joA0e_2 [mxi : MX] (l : List ByteArray) (t : ByteArray) (tl : Bool) (i : Int) (h : AllP [decide (i < (↑l.length : Int)) = true, (0 : Int) ≤ i ∧ i < (↑l.length : Int), decide (i > (0 : Int)) = false, SZ (l.getD i.toNat ByteArray.empty), 4294967296 = rsv, (evn (l.getD i.toNat ByteArray.empty)).size = 0, inR IntKind.i64 (i + (1 : Int))]) : To Tryd.prog (loopAt Tryd.f57 0) ({ n := 25, fr := [(1, AV.v (.string t)), (5, AV.ptr 1 0), (8, AV.sl 1 (.strs l) tl), (9, AV.v (.int .i64 (↑l.length : Int))), (10, AV.v (.int .i64 i))], hp := [(1, AObj.cells 65 [AV.v (.pointer none), AV.v (.slice none 0 0)])], nx := 5 }) (.normal) { n := 25, fr := [(1, AV.v (.string t)), (5, AV.ptr 1 0), (8, AV.sl 1 (Seq.strs l) tl), (9, AV.v (.int .i64 (↑l.length : Int))), (10, AV.v (.int .i64 (i + (1 : Int))))], hp := [(1, AObj.cells 65 [AV.ptr 1 0, AV.v (.slice none 0 0)])], nx := 5 } :=
  evW_to hm soB3 (hs := [CHint.ops 3 [(0, Hint.b true)], CHint.ops 5 [(1, Hint.b false)]]) (slots := [1, 5, 8, 9, 10]) (keys := [1]) (nx := 5) (c := _) (by kernel_rfl) h
theorem joA0e_3 [mxi : MX] (l : List ByteArray) (t : ByteArray) (tl : Bool) (i : Int) (h : AllP [decide (i < (↑l.length : Int)) = false]) : To Tryd.prog (loopAt Tryd.f57 0) ({ n := 25, fr := [(1, AV.v (.string t)), (5, AV.ptr 1 0), (8, AV.sl 1 (.strs l) tl), (9, AV.v (.int .i64 (↑l.length : Int))), (10, AV.v (.int .i64 i))], hp := [(1, AObj.cells 65 [AV.v (.pointer none), AV.v (.slice none 0 0)])], nx := 5 }) (Exit.exit 0) { n := 25, fr := [(5, AV.ptr 1 0)], hp := [(1, AObj.cells 65 [AV.v (.pointer none), AV.v (.slice none 0 0)])], nx := 5 } :=
  evW_to hm soB3 (hs := [CHint.ops 3 [(0, Hint.b false)]]) (slots := [5]) (keys := [1]) (nx := 5) (c := _) (by kernel_rfl) h
-- 3 paths
theorem joA1e_1 [mxi : MX] (l : List ByteArray) (t : ByteArray) (tl : Bool) (i : Int) (h : AllP [decide (i < (↑l.length : Int)) = true, (0 : Int) ≤ i ∧ i < (↑l.length : Int), decide (i > (0 : Int)) = true, SZ t, 4294967296 = rsv, 4294967296 = rsv, (evn t).size = 0, SZ (l.getD i.toNat ByteArray.empty), 4294967296 = rsv, 4294967296 = rsv, (evn (l.getD i.toNat ByteArray.empty)).size = 0, inR IntKind.i64 (i + (1 : Int))]) : To Tryd.prog (loopAt Tryd.f57 0) ({ n := 25, fr := [(1, AV.v (.string t)), (5, AV.ptr 1 0), (8, AV.sl 1 (.strs l) tl), (9, AV.v (.int .i64 (↑l.length : Int))), (10, AV.v (.int .i64 i))], hp := [(1, AObj.cells 65 [AV.ptr 1 0, AV.v (.slice none 0 0)])], nx := 5 }) (.normal) { n := 25, fr := [(1, AV.v (.string t)), (5, AV.ptr 1 0), (8, AV.sl 1 (Seq.strs l) tl), (9, AV.v (.int .i64 (↑l.length : Int))), (10, AV.v (.int .i64 (i + (1 : Int))))], hp := [(1, AObj.cells 65 [AV.ptr 1 0, AV.v (.slice none 0 0)])], nx := 5 } :=
  evW_to hm soB3 (hs := [CHint.ops 3 [(0, Hint.b true)], CHint.ops 5 [(1, Hint.b true)]]) (slots := [1, 5, 8, 9, 10]) (keys := [1]) (nx := 5) (c := _) (by kernel_rfl) h
theorem joA1e_2 [mxi : MX] (l : List ByteArray) (t : ByteArray) (tl : Bool) (i : Int) (h : AllP [decide (i < (↑l.length : Int)) = true, (0 : Int) ≤ i ∧ i < (↑l.length : Int), decide (i > (0 : Int)) = false, SZ (l.getD i.toNat ByteArray.empty), 4294967296 = rsv, 4294967296 = rsv, (evn (l.getD i.toNat ByteArray.empty)).size = 0, inR IntKind.i64 (i + (1 : Int))]) : To Tryd.prog (loopAt Tryd.f57 0) ({ n := 25, fr := [(1, AV.v (.string t)), (5, AV.ptr 1 0), (8, AV.sl 1 (.strs l) tl), (9, AV.v (.int .i64 (↑l.length : Int))), (10, AV.v (.int .i64 i))], hp := [(1, AObj.cells 65 [AV.ptr 1 0, AV.v (.slice none 0 0)])], nx := 5 }) (.normal) { n := 25, fr := [(1, AV.v (.string t)), (5, AV.ptr 1 0), (8, AV.sl 1 (Seq.strs l) tl), (9, AV.v (.int .i64 (↑l.length : Int))), (10, AV.v (.int .i64 (i + (1 : Int))))], hp := [(1, AObj.cells 65 [AV.ptr 1 0, AV.v (.slice none 0 0)])], nx := 5 } :=
  evW_to hm soB3 (hs := [CHint.ops 3 [(0, Hint.b true)], CHint.ops 5 [(1, Hint.b false)]]) (slots := [1, 5, 8, 9, 10]) (keys := [1]) (nx := 5) (c := _) (by kernel_rfl) h
theorem joA1e_3 [mxi : MX] (l : List ByteArray) (t : ByteArray) (tl : Bool) (i : Int) (h : AllP [decide (i < (↑l.length : Int)) = false]) : To Tryd.prog (loopAt Tryd.f57 0) ({ n := 25, fr := [(1, AV.v (.string t)), (5, AV.ptr 1 0), (8, AV.sl 1 (.strs l) tl), (9, AV.v (.int .i64 (↑l.length : Int))), (10, AV.v (.int .i64 i))], hp := [(1, AObj.cells 65 [AV.ptr 1 0, AV.v (.slice none 0 0)])], nx := 5 }) (Exit.exit 0) { n := 25, fr := [(5, AV.ptr 1 0)], hp := [(1, AObj.cells 65 [AV.ptr 1 0, AV.v (.slice none 0 0)])], nx := 5 } :=
  evW_to hm soB3 (hs := [CHint.ops 3 [(0, Hint.b false)]]) (slots := [5]) (keys := [1]) (nx := 5) (c := _) (by kernel_rfl) h
-- 3 paths
theorem joA1_1 [mxi : MX] (l : List ByteArray) (t : ByteArray) (tl : Bool) (i : Int) (h : AllP [decide (i < (↑l.length : Int)) = true, (0 : Int) ≤ i ∧ i < (↑l.length : Int), decide (i > (0 : Int)) = true, SZ t, 4294967296 = rsv, 4294967296 = rsv, (intsOfStr (evn t)).length ≤ 140737488355328, SZ (l.getD i.toNat ByteArray.empty), 4294967296 = rsv, 4294967296 = rsv, 4294967297 = 4294967297, (intsOfStr (evn t)).length = (intsOfStr (evn t)).length, (intsOfStr (evn t)).length = (intsOfStr (evn t)).length, (intsOfStr (evn t) ++ intsOfStr (evn (l.getD i.toNat ByteArray.empty))).length ≤ 140737488355328, inR IntKind.i64 (i + (1 : Int))]) : To Tryd.prog (loopAt Tryd.f57 0) ({ n := 25, fr := [(1, AV.v (.string t)), (5, AV.ptr 1 0), (8, AV.sl 1 (.strs l) tl), (9, AV.v (.int .i64 (↑l.length : Int))), (10, AV.v (.int .i64 i))], hp := [(1, AObj.cells 65 [AV.ptr 1 0, AV.v (.slice none 0 0)])], nx := 5 }) (.normal) { n := 25, fr := [(1, AV.v (.string t)), (5, AV.ptr 1 0), (8, AV.sl 1 (Seq.strs l) tl), (9, AV.v (.int .i64 (↑l.length : Int))), (10, AV.v (.int .i64 (i + (1 : Int))))], hp := [(1, AObj.cells 65 [AV.ptr 1 0, AV.row 15 0 (intsOfStr (evn t) ++ intsOfStr (evn (l.getD i.toNat ByteArray.empty))).length (intsOfStr (evn t) ++ intsOfStr (evn (l.getD i.toNat ByteArray.empty))).length false]), (15, AObj.row 5 1 (.ints .u8 (intsOfStr (evn t) ++ intsOfStr (evn (l.getD i.toNat ByteArray.empty)))) (intsOfStr (evn t) ++ intsOfStr (evn (l.getD i.toNat ByteArray.empty))).length)], nx := 16 } :=
  evW_to hm soB2 (hs := [CHint.ops 3 [(0, Hint.b true)], CHint.ops 5 [(1, Hint.b true)]]) (slots := [1, 5, 8, 9, 10]) (keys := [1, 15]) (nx := 16) (c := _) (by kernel_rfl) h
theorem joA1_2 [mxi : MX] (l : List ByteArray) (t : ByteArray) (tl : Bool) (i : Int) (h : AllP [decide (i < (↑l.length : Int)) = true, (0 : Int) ≤ i ∧ i < (↑l.length : Int), decide (i > (0 : Int)) = false, SZ (l.getD i.toNat ByteArray.empty), 4294967296 = rsv, 4294967296 = rsv, (intsOfStr (evn (l.getD i.toNat ByteArray.empty))).length ≤ 140737488355328, inR IntKind.i64 (i + (1 : Int))]) : To Tryd.prog (loopAt Tryd.f57 0) ({ n := 25, fr := [(1, AV.v (.string t)), (5, AV.ptr 1 0), (8, AV.sl 1 (.strs l) tl), (9, AV.v (.int .i64 (↑l.length : Int))), (10, AV.v (.int .i64 i))], hp := [(1, AObj.cells 65 [AV.ptr 1 0, AV.v (.slice none 0 0)])], nx := 5 }) (.normal) { n := 25, fr := [(1, AV.v (.string t)), (5, AV.ptr 1 0), (8, AV.sl 1 (Seq.strs l) tl), (9, AV.v (.int .i64 (↑l.length : Int))), (10, AV.v (.int .i64 (i + (1 : Int))))], hp := [(1, AObj.cells 65 [AV.ptr 1 0, AV.row 15 0 (intsOfStr (evn (l.getD i.toNat ByteArray.empty))).length (intsOfStr (evn (l.getD i.toNat ByteArray.empty))).length false]), (15, AObj.row 5 1 (.ints .u8 (intsOfStr (evn (l.getD i.toNat ByteArray.empty)))) (intsOfStr (evn (l.getD i.toNat ByteArray.empty))).length)], nx := 16 } :=
  evW_to hm soB2 (hs := [CHint.ops 3 [(0, Hint.b true)], CHint.ops 5 [(1, Hint.b false)]]) (slots := [1, 5, 8, 9, 10]) (keys := [1, 15]) (nx := 16) (c := _) (by kernel_rfl) h
theorem joA1_3 [mxi : MX] (l : List ByteArray) (t : ByteArray) (tl : Bool) (i : Int) (h : AllP [decide (i < (↑l.length : Int)) = false]) : To Tryd.prog (loopAt Tryd.f57 0) ({ n := 25, fr := [(1, AV.v (.string t)), (5, AV.ptr 1 0), (8, AV.sl 1 (.strs l) tl), (9, AV.v (.int .i64 (↑l.length : Int))), (10, AV.v (.int .i64 i))], hp := [(1, AObj.cells 65 [AV.ptr 1 0, AV.v (.slice none 0 0)])], nx := 5 }) (Exit.exit 0) { n := 25, fr := [(5, AV.ptr 1 0)], hp := [(1, AObj.cells 65 [AV.ptr 1 0, AV.v (.slice none 0 0)])], nx := 5 } :=
  evW_to hm soB2 (hs := [CHint.ops 3 [(0, Hint.b false)]]) (slots := [5]) (keys := [1]) (nx := 5) (c := _) (by kernel_rfl) h
-- 3 paths
theorem joA2_1 [mxi : MX] (l : List ByteArray) (t : ByteArray) (tl : Bool) (i : Int) (q : List Int) (fl : Nat) (h : AllP [decide (i < (↑l.length : Int)) = true, (0 : Int) ≤ i ∧ i < (↑l.length : Int), decide (i > (0 : Int)) = true, SZ t, 4294967296 = rsv, 4294967296 = rsv, 4294967297 = 4294967297, q.length = q.length, q.length = q.length, (q ++ intsOfStr (evn t)).length ≤ 140737488355328, SZ (l.getD i.toNat ByteArray.empty), 4294967296 = rsv, 4294967296 = rsv, 4294967297 = 4294967297, (q ++ intsOfStr (evn t)).length = (q ++ intsOfStr (evn t)).length, (q ++ intsOfStr (evn t)).length = (q ++ intsOfStr (evn t)).length, (q ++ intsOfStr (evn t) ++ intsOfStr (evn (l.getD i.toNat ByteArray.empty))).length ≤ 140737488355328, inR IntKind.i64 (i + (1 : Int))]) : To Tryd.prog (loopAt Tryd.f57 0) ({ n := 25, fr := [(1, AV.v (.string t)), (5, AV.ptr 1 0), (8, AV.sl 1 (.strs l) tl), (9, AV.v (.int .i64 (↑l.length : Int))), (10, AV.v (.int .i64 i))], hp := [(1, AObj.cells 65 [AV.ptr 1 0, AV.row 15 0 q.length q.length false]), (15, AObj.row 5 1 (.ints .u8 q) fl)], nx := 16 }) (.normal) { n := 25, fr := [(1, AV.v (.string t)), (5, AV.ptr 1 0), (8, AV.sl 1 (Seq.strs l) tl), (9, AV.v (.int .i64 (↑l.length : Int))), (10, AV.v (.int .i64 (i + (1 : Int))))], hp := [(1, AObj.cells 65 [AV.ptr 1 0, AV.row 15 0 (q ++ intsOfStr (evn t) ++ intsOfStr (evn (l.getD i.toNat ByteArray.empty))).length (q ++ intsOfStr (evn t) ++ intsOfStr (evn (l.getD i.toNat ByteArray.empty))).length false]), (15, AObj.row 5 1 (.ints .u8 (q ++ intsOfStr (evn t) ++ intsOfStr (evn (l.getD i.toNat ByteArray.empty)))) (q ++ intsOfStr (evn t) ++ intsOfStr (evn (l.getD i.toNat ByteArray.empty))).length)], nx := 16 } :=
  evW_to hm soB2 (hs := [CHint.ops 3 [(0, Hint.b true)], CHint.ops 5 [(1, Hint.b true)]]) (slots := [1, 5, 8, 9, 10]) (keys := [1, 15]) (nx := 16) (c := _) (by kernel_rfl) h
theorem joA2_2 [mxi : MX] (l : List ByteArray) (t : ByteArray) (tl : Bool) (i : Int) (q : List Int) (fl : Nat) (h : AllP [decide (i < (↑l.length : Int)) = true, (0 : Int) ≤ i ∧ i < (↑l.length : Int), decide (i > (0 : Int)) = false, SZ (l.getD i.toNat ByteArray.empty), 4294967296 = rsv, 4294967296 = rsv, 4294967297 = 4294967297, q.length = q.length, q.length = q.length, (q ++ intsOfStr (evn (l.getD i.toNat ByteArray.empty))).length ≤ 140737488355328, inR IntKind.i64 (i + (1 : Int))]) : To Tryd.prog (loopAt Tryd.f57 0) ({ n := 25, fr := [(1, AV.v (.string t)), (5, AV.ptr 1 0), (8, AV.sl 1 (.strs l) tl), (9, AV.v (.int .i64 (↑l.length : Int))), (10, AV.v (.int .i64 i))], hp := [(1, AObj.cells 65 [AV.ptr 1 0, AV.row 15 0 q.length q.length false]), (15, AObj.row 5 1 (.ints .u8 q) fl)], nx := 16 }) (.normal) { n := 25, fr := [(1, AV.v (.string t)), (5, AV.ptr 1 0), (8, AV.sl 1 (Seq.strs l) tl), (9, AV.v (.int .i64 (↑l.length : Int))), (10, AV.v (.int .i64 (i + (1 : Int))))], hp := [(1, AObj.cells 65 [AV.ptr 1 0, AV.row 15 0 (q ++ intsOfStr (evn (l.getD i.toNat ByteArray.empty))).length (q ++ intsOfStr (evn (l.getD i.toNat ByteArray.empty))).length false]), (15, AObj.row 5 1 (.ints .u8 (q ++ intsOfStr (evn (l.getD i.toNat ByteArray.empty)))) (q ++ intsOfStr (evn (l.getD i.toNat ByteArray.empty))).length)], nx := 16 } :=
  evW_to hm soB2 (hs := [CHint.ops 3 [(0, Hint.b true)], CHint.ops 5 [(1, Hint.b false)]]) (slots := [1, 5, 8, 9, 10]) (keys := [1, 15]) (nx := 16) (c := _) (by kernel_rfl) h
theorem joA2_3 [mxi : MX] (l : List ByteArray) (t : ByteArray) (tl : Bool) (i : Int) (q : List Int) (fl : Nat) (h : AllP [decide (i < (↑l.length : Int)) = false]) : To Tryd.prog (loopAt Tryd.f57 0) ({ n := 25, fr := [(1, AV.v (.string t)), (5, AV.ptr 1 0), (8, AV.sl 1 (.strs l) tl), (9, AV.v (.int .i64 (↑l.length : Int))), (10, AV.v (.int .i64 i))], hp := [(1, AObj.cells 65 [AV.ptr 1 0, AV.row 15 0 q.length q.length false]), (15, AObj.row 5 1 (.ints .u8 q) fl)], nx := 16 }) (Exit.exit 0) { n := 25, fr := [(5, AV.ptr 1 0)], hp := [(1, AObj.cells 65 [AV.ptr 1 0, AV.row 15 0 q.length q.length false]), (15, AObj.row 5 1 (.ints .u8 q) fl)], nx := 16 } :=
  evW_to hm soB2 (hs := [CHint.ops 3 [(0, Hint.b false)]]) (slots := [5]) (keys := [1, 15]) (nx := 16) (c := _) (by kernel_rfl) h
-- 1 paths
theorem joFA1 [mxi : MX] (l : List ByteArray) (t : ByteArray) (tl : Bool) (h : AllP [LoopTo Tryd.prog (loopAt Tryd.f57 0) { n := 25, fr := [(1, AV.v (.string t)), (5, AV.ptr 1 0), (8, AV.sl 1 (Seq.strs l) tl), (9, AV.v (.int .i64 (↑l.length : Int))), (10, AV.v (.int .i64 (0 : Int)))], hp := [(1, AObj.cells 65 [AV.v (.pointer none), AV.v (.slice none 0 0)])], nx := 5 } (Exit.exit 0) { n := 25, fr := [(5, AV.ptr 1 0)], hp := [(1, AObj.cells 65 [AV.v (.pointer none), AV.v (.slice none 0 0)])], nx := 5 }, 4294967296 = rsv]) : PureTo Tryd.prog 57 [.sl 1 (.strs l) tl, .v (.string t)] (AV.v (.string ByteArray.empty)) :=
  evFn_pure hm soB2 (fn := Tryd.f57) rfl rfl (ti := false) (hs := [CHint.loop [1, 5, 8, 9, 10] [1] 5 (Exit.exit 0) { n := 25, fr := [(5, AV.ptr 1 0)], hp := [(1, AObj.cells (65 : TypeId) [AV.v (.pointer none), AV.v (.slice none 0 0)])], nx := 5 }]) (c := _) (by kernel_rfl) h
-- 1 paths
theorem joFB1 [mxi : MX] (l : List ByteArray) (t : ByteArray) (tl : Bool) (h : AllP [LoopTo Tryd.prog (loopAt Tryd.f57 0) { n := 25, fr := [(1, AV.v (.string t)), (5, AV.ptr 1 0), (8, AV.sl 1 (Seq.strs l) tl), (9, AV.v (.int .i64 (↑l.length : Int))), (10, AV.v (.int .i64 (0 : Int)))], hp := [(1, AObj.cells 65 [AV.v (.pointer none), AV.v (.slice none 0 0)])], nx := 5 } (Exit.exit 0) { n := 25, fr := [(5, AV.ptr 1 0)], hp := [(1, AObj.cells 65 [AV.ptr 1 0, AV.v (.slice none 0 0)])], nx := 5 }, 4294967296 = rsv, 4294967296 = rsv]) : PureTo Tryd.prog 57 [.sl 1 (.strs l) tl, .v (.string t)] (AV.v (.string ByteArray.empty)) :=
  evFn_pure hm soB2 (fn := Tryd.f57) rfl rfl (ti := false) (hs := [CHint.loop [1, 5, 8, 9, 10] [1] 5 (Exit.exit 0) { n := 25, fr := [(5, AV.ptr 1 0)], hp := [(1, AObj.cells (65 : TypeId) [AV.ptr 1 0, AV.v (.slice none 0 0)])], nx := 5 }]) (c := _) (by kernel_rfl) h
-- 1 paths
theorem joFC1 [mxi : MX] (l : List ByteArray) (t : ByteArray) (tl : Bool) (q : List Int) (fl : Nat) (h : AllP [LoopTo Tryd.prog (loopAt Tryd.f57 0) { n := 25, fr := [(1, AV.v (.string t)), (5, AV.ptr 1 0), (8, AV.sl 1 (Seq.strs l) tl), (9, AV.v (.int .i64 (↑l.length : Int))), (10, AV.v (.int .i64 (0 : Int)))], hp := [(1, AObj.cells 65 [AV.v (.pointer none), AV.v (.slice none 0 0)])], nx := 5 } (Exit.exit 0) { n := 25, fr := [(5, AV.ptr 1 0)], hp := [(1, AObj.cells 65 [AV.ptr 1 0, AV.row 15 0 q.length q.length false]), (15, AObj.row 5 1 (.ints .u8 q) fl)], nx := 16 }, 4294967296 = rsv, 4294967296 = rsv, 4294967297 = 4294967297, q.length = q.length, q.length = q.length, 0 < q.length, q.length ≤ 9223372036854775807, ∀ (x : Int), x ∈ q → (0 : Int) ≤ x ∧ x ≤ (255 : Int)]) : PureTo Tryd.prog 57 [.sl 1 (.strs l) tl, .v (.string t)] (AV.v (.string (strOfInts q))) :=
  evFn_pure hm soB2 (fn := Tryd.f57) rfl rfl (ti := false) (hs := [CHint.loop [1, 5, 8, 9, 10] [1] 5 (Exit.exit 0) { n := 25, fr := [(5, AV.ptr 1 0)], hp := [(1, AObj.cells (65 : TypeId) [AV.ptr 1 0, AV.row 15 0 q.length q.length false]), (15, AObj.row (5 : TypeId) 1 (.ints .u8 q) fl)], nx := 16 }]) (c := _) (by kernel_rfl) h
end Go.Proofs.Us

/- Texts: Join. -/
set_option maxRecDepth 100000
namespace Go.Proofs.Us
open Go Go.Ev
variable [mxi : MX]

/-- the first n texts joined -/
def jn (l : List ByteArray) (t : ByteArray) : Nat → List Int
  | 0 => []
  | n + 1 => (jn l t n ++ if n = 0 then [] else intsOfStr (evn t)) ++ intsOfStr (evn (l.getD n ByteArray.empty))

omit mxi in
theorem jn_step (l : List ByteArray) (t : ByteArray) (n : Nat) : (jn l t n).length ≤ (jn l t (n + 1)).length := by
  simp only [jn, List.length_append]
  omega
omit mxi in
theorem jn_mono (l : List ByteArray) (t : ByteArray) {n m : Nat} (h : n ≤ m) : (jn l t n).length ≤ (jn l t m).length := by
  induction h with
  | refl => exact Nat.le_refl _
  | step _ ih => exact Nat.le_trans ih (jn_step l t _)
omit mxi in
theorem jn_bytes (l : List ByteArray) (t : ByteArray) (n : Nat) : ∀ x ∈ jn l t n, 0 ≤ x ∧ x ≤ 255 := by
  have hb : ∀ s : ByteArray, ∀ x ∈ intsOfStr s, (0 : Int) ≤ x ∧ x ≤ 255 := by
    intro s x hx
    unfold intsOfStr at hx
    obtain ⟨b, _, rfl⟩ := List.mem_map.1 hx
    have := b.toNat_lt
    omega
  induction n with
  | zero => intro x hx; simp [jn] at hx
  | succ n ih =>
    intro x hx
    simp only [jn, List.mem_append] at hx
    rcases hx with (hx | hx) | hx
    · exact ih x hx
    · split at hx
      · cases hx
      · exact hb _ x hx
    · exact hb _ x hx
omit mxi in
theorem ints_evn_len (s : ByteArray) : (intsOfStr (evn s)).length = (evn s).size := by simp [intsOfStr]
omit mxi in
theorem ints_nil {s : ByteArray} (h : s.size = 0) : intsOfStr s = [] := List.eq_nil_of_length_eq_zero (by rw [intsOfStr_len]; exact h)

/-- what a list of texts must be, to be joined here -/
structure JOK (l : List ByteArray) (t : ByteArray) : Prop where
  hT : SZ t
  hL : ∀ x ∈ l, SZ x
  hN : l.length < 4611686018427387904
  room : (jn l t l.length).length ≤ 140737488355328

omit mxi in
theorem JOK.at {l : List ByteArray} {t : ByteArray} (h : JOK l t) {i : Nat} (hi : i < l.length) : SZ (l.getD i ByteArray.empty) := by
  rw [List.getD_eq_getElem?_getD, List.getElem?_eq_getElem hi]
  exact h.hL _ (List.getElem_mem hi)
omit mxi in
theorem JOK.len {l : List ByteArray} {t : ByteArray} (h : JOK l t) {i : Nat} (hi : i ≤ l.length) : (jn l t i).length ≤ 140737488355328 := Nat.le_trans (jn_mono l t hi) h.room

section
variable {l : List ByteArray} {t : ByteArray} (tl : Bool)

theorem join_row (h : JOK l t) : ∀ k i : Nat, i + k = l.length → 1 ≤ i → ∀ fl : Nat, ∃ fl', LoopTo Tryd.prog (loopAt Tryd.f57 0) (jA2 l t tl i (jn l t i) fl) (Exit.exit 0) (jX2 l t tl (jn l t l.length) fl') := by
  intro k
  induction k with
  | zero =>
    intro i hi h1 fl
    have hin : i = l.length := by omega
    subst hin
    exact ⟨fl, .done (by simp) (joA2_3 l t tl _ _ fl ⟨by simp, trivial⟩)⟩
  | succ k ih =>
    intro i hi h1 fl
    have hst := joA2_1 l t tl (i : Int) (jn l t i) fl
    have e : jn l t (i + 1) = jn l t i ++ intsOfStr (evn t) ++ intsOfStr (evn (l.getD i ByteArray.empty)) := by
      rw [jn, if_neg (by omega)]
    have hl := h.len (i := i + 1) (by omega)
    have hm : (jn l t i ++ intsOfStr (evn t)).length ≤ 140737488355328 := by
      rw [e, List.length_append] at hl
      omega
    have hn := h.hN
    rw [Int.toNat_natCast i] at hst
    rw [← e] at hst
    obtain ⟨fl', hl'⟩ := ih (i + 1) (by omega) (by omega) (jn l t (i + 1)).length
    exact ⟨fl', .step (hst ⟨by simp; omega, by omega, by simp; omega, h.hT, rfl, rfl, rfl, rfl, rfl, hm, h.at (by omega), rfl, rfl, rfl, rfl, rfl, hl, by simp only [inR]; omega, trivial⟩) hl'⟩

theorem join_nil (h : JOK l t) : ∀ k i : Nat, i + k = l.length → 1 ≤ i → jn l t i = [] →
    (jn l t l.length = [] ∧ LoopTo Tryd.prog (loopAt Tryd.f57 0) (jA1 l t tl i) (Exit.exit 0) (jX1 l t tl)) ∨
    (0 < (jn l t l.length).length ∧ ∃ fl', LoopTo Tryd.prog (loopAt Tryd.f57 0) (jA1 l t tl i) (Exit.exit 0) (jX2 l t tl (jn l t l.length) fl')) := by
  intro k
  induction k with
  | zero =>
    intro i hi h1 h0
    have hin : i = l.length := by omega
    subst hin
    exact .inl ⟨h0, .done (by simp) (joA1_3 l t tl _ ⟨by simp, trivial⟩)⟩
  | succ k ih =>
    intro i hi h1 h0
    have e : jn l t (i + 1) = intsOfStr (evn t) ++ intsOfStr (evn (l.getD i ByteArray.empty)) := by
      rw [jn, if_neg (by omega), h0, List.nil_append]
    have hl := h.len (i := i + 1) (by omega)
    have hn := h.hN
    by_cases hz : (evn t).size = 0 ∧ (evn (l.getD i ByteArray.empty)).size = 0
    · have h2 : jn l t (i + 1) = [] := by rw [e, ints_nil hz.1, ints_nil hz.2]; rfl
      have hst := joA1e_1 l t tl (i : Int)
      rw [Int.toNat_natCast i] at hst
      have hst := hst ⟨by simp; omega, by omega, by simp; omega, h.hT, rfl, rfl, hz.1, h.at (by omega), rfl, rfl, hz.2, by simp only [inR]; omega, trivial⟩
      rcases ih (i + 1) (by omega) (by omega) h2 with ⟨a, b⟩ | ⟨a, fl', b⟩
      · exact .inl ⟨a, .step hst b⟩
      · exact .inr ⟨a, fl', .step hst b⟩
    · have hpos : 0 < (jn l t (i + 1)).length := by
        rw [e, List.length_append, ints_evn_len, ints_evn_len]
        omega
      have hst := joA1_1 l t tl (i : Int)
      rw [Int.toNat_natCast i] at hst
      rw [← e] at hst
      have ht : (intsOfStr (evn t)).length ≤ 140737488355328 := by
        rw [e, List.length_append] at hl
        omega
      have hst := hst ⟨by simp; omega, by omega, by simp; omega, h.hT, rfl, rfl, ht, h.at (by omega), rfl, rfl, rfl, rfl, rfl, hl, by simp only [inR]; omega, trivial⟩
      obtain ⟨fl', hl'⟩ := join_row tl h k (i + 1) (by omega) (by omega) (jn l t (i + 1)).length
      exact .inr ⟨Nat.lt_of_lt_of_le hpos (jn_mono l t (by omega)), fl', .step hst hl'⟩

theorem join_c (h : JOK l t) : PureTo Tryd.prog 57 [.sl 1 (.strs l) tl, .v (.string t)] (.v (.string (strOfInts (jn l t l.length)))) := by
  have hn := h.hN
  have hempty : strOfInts [] = ByteArray.empty := rfl
  rcases Nat.eq_zero_or_pos l.length with h0 | h0
  · have hz := joFA1 l t tl ⟨.done (by simp) (joA0_3 l t tl 0 ⟨by simp [h0], trivial⟩), rfl, trivial⟩
    rw [h0]
    exact hz
  · have e : jn l t 1 = intsOfStr (evn (l.getD 0 ByteArray.empty)) := by simp [jn]
    have hl := h.len (i := 1) (by omega)
    have fin1 : ∀ fl', 0 < (jn l t l.length).length → LoopTo Tryd.prog (loopAt Tryd.f57 0) (jA0 l t tl 0) (Exit.exit 0) (jX2 l t tl (jn l t l.length) fl') →
        PureTo Tryd.prog 57 [.sl 1 (.strs l) tl, .v (.string t)] (.v (.string (strOfInts (jn l t l.length)))) := fun fl' hp hlo =>
      joFC1 l t tl (jn l t l.length) fl' ⟨hlo, rfl, rfl, rfl, rfl, rfl, hp, Nat.le_trans h.room (by decide), jn_bytes l t _, trivial⟩
    by_cases hz : (evn (l.getD 0 ByteArray.empty)).size = 0
    · have h2 : jn l t 1 = [] := by rw [e, ints_nil hz]
      have hst := joA0e_2 l t tl 0 ⟨by simp; omega, by omega, by simp, h.at (by omega), rfl, hz, by simp [inR], trivial⟩
      rcases join_nil tl h (l.length - 1) 1 (by omega) (by omega) h2 with ⟨a, b⟩ | ⟨a, fl', b⟩
      · have hz := joFB1 l t tl ⟨.step hst b, rfl, rfl, trivial⟩
        rw [a]
        exact hz
      · exact fin1 fl' a (.step hst b)
    · have hpos : 0 < (jn l t 1).length := by rw [e, ints_evn_len]; omega
      have hst := joA0_2 l t tl 0
      rw [show (0 : Int).toNat = 0 from rfl, ← e] at hst
      have hst := hst ⟨by simp; omega, by omega, by simp, h.at (by omega), rfl, hl, by simp [inR], trivial⟩
      obtain ⟨fl', hl'⟩ := join_row tl h (l.length - 1) 1 (by omega) (by omega) (jn l t 1).length
      exact fin1 fl' (Nat.lt_of_lt_of_le hpos (jn_mono l t (by omega))) (.step hst hl')

end
end Go.Proofs.Us
