/- Contracts of the program's functions, and the plain law behind them. No condition beyond those in each statement. -/
import Derived.Test.YtnmhaemjffcjaaaDoorUsAll6
import Derived.Test.YtnmhaemjffcjaaaDoorEvAll4
import Derived.Test.YtnmhaemjffcjaaaDoorUsAll5
import Derived.Test.YtnmhaemjffcjaaaDoorUsAll2
set_option linter.unusedSimpArgs false
set_option linter.unusedVariables false
set_option linter.unusedSectionVars false
/- Texts: plain laws: parts joined are the text; the order; twice is once. -/
set_option maxRecDepth 100000
namespace Go.Proofs.Us
open Go Go.Ev

theorem ints_ext (s : ByteArray) (a b : Nat) : intsOfStr (s.extract a b) = ((intsOfStr s).take b).drop a := by
  unfold intsOfStr
  rw [extract_list, List.map_drop, List.map_take]
theorem ints_cat (s : ByteArray) {a b c : Nat} (h1 : a ≤ b) (h2 : b ≤ c) : intsOfStr (s.extract a b) ++ intsOfStr (s.extract b c) = intsOfStr (s.extract a c) := by
  rw [ints_ext, ints_ext, ints_ext]
  generalize intsOfStr s = l
  conv => rhs; rw [← List.take_append_drop b (l.take c), List.drop_append, List.take_take, Nat.min_eq_left h2]
  by_cases h : b ≤ l.length
  · have hl : (l.take b).length = b := by rw [List.length_take]; omega
    rw [hl, show a - b = 0 by omega]
    rfl
  · have e1 : (l.take c).drop b = [] := List.drop_eq_nil_of_le (by rw [List.length_take]; omega)
    rw [e1]
    simp
theorem str_inj {s t : ByteArray} (h : intsOfStr s = intsOfStr t) : s = t := by
  rw [← str_ints s, ← str_ints t, h]
theorem ints_all (s : ByteArray) : intsOfStr (s.extract 0 s.size) = intsOfStr s := by
  rw [ints_ext, List.drop_zero, List.take_of_length_le (by rw [intsOfStr_len]; exact Nat.le_refl _)]

theorem ext_size {s : ByteArray} {a b : Nat} (h : a ≤ b) (hb : b ≤ ul s) : (s.extract (2 * a) (2 * b)).size = 2 * (b - a) := by
  have hu : 2 * ul s ≤ s.size := by unfold ul; omega
  rw [ByteArray.size_extract]
  omega
theorem evn_even {s : ByteArray} {n : Nat} (h : s.size = 2 * n) : evn s = s := by
  apply str_inj
  have hu : 2 * ul s = s.size := by unfold ul; omega
  show intsOfStr (s.extract 0 (2 * ul s)) = _
  rw [hu, ints_all]

/-! ### Split and Join -/

theorem stands_spec {s t : ByteArray} {p : Nat} (h : stands s t p = true) : p + ul t ≤ ul s ∧ intsOfStr (s.extract (2 * p) (2 * (p + ul t))) = intsOfStr (evn t) := by
  unfold stands at h
  by_cases h1 : (p : Int) + (ul t : Int) ≤ (ul s : Int)
  · rw [decide_eq_true h1, cond_true, show ((2 : Int) * (p : Int)).toNat = 2 * p by omega, show ((2 : Int) * (p : Int) + (2 : Int) * (ul t : Int)).toNat = 2 * (p + ul t) by omega, show ((2 : Int) * (ul t : Int)).toNat = 2 * ul t by omega] at h
    rw [same_ints] at h
    exact ⟨by omega, of_decide_eq_true h⟩
  · rw [decide_eq_false h1] at h
    cases h

theorem jn_pre (t : ByteArray) (q r : List ByteArray) : ∀ n, n ≤ q.length → jn (q ++ r) t n = jn q t n
  | 0, _ => rfl
  | n + 1, h => by
    simp only [jn]
    rw [jn_pre t q r n (by omega)]
    simp only [List.getD_eq_getElem?_getD]
    rw [List.getElem?_append_left (by omega)]
def jl (l : List ByteArray) (t : ByteArray) : List Int := jn l t l.length
theorem jl_snoc (t : ByteArray) (q : List ByteArray) (x : ByteArray) : jl (q ++ [x]) t = (jl q t ++ if q.length = 0 then [] else intsOfStr (evn t)) ++ intsOfStr (evn x) := by
  unfold jl
  rw [List.length_append, List.length_singleton, jn, jn_pre t q [x] q.length (Nat.le_refl _)]
  simp

theorem parts_join {s t : ByteArray} (ht : 1 ≤ ul t) : ∀ f a : Nat, ∀ q, ul s + 1 ≤ a + f → a ≤ ul s →
    jl (partsG s t f a q) t = (jl q t ++ if q.length = 0 then [] else intsOfStr (evn t)) ++ intsOfStr (s.extract (2 * a) (2 * ul s))
  | 0, a, q, h, h1 => by omega
  | f + 1, a, q, h, h1 => by
    unfold partsG
    have e : idxS s t (a : Int) = idxG s t (ul s + 1) a := by unfold idxS; rw [Int.toNat_natCast]
    rw [e]
    rcases idxG_spec (s := s) (t := t) (ul s + 1) a with h2 | ⟨p, h2, h3, _, h4⟩
    · rw [h2, if_pos (by omega), jl_snoc, evn_even (ext_size h1 (Nat.le_refl _))]
    · obtain ⟨h5, h6⟩ := stands_spec h4
      rw [h2, if_neg (by omega), Int.toNat_natCast, parts_join ht f (p + ul t) _ (by omega) h5, jl_snoc, evn_even (ext_size h3 (by omega))]
      rw [if_neg (by simp : ¬ (q ++ [s.extract (2 * a) (2 * p)]).length = 0), ← ints_cat s (a := 2 * a) (b := 2 * p) (c := 2 * ul s) (by omega) (by omega), ← ints_cat s (a := 2 * p) (b := 2 * (p + ul t)) (c := 2 * ul s) (by omega) (by omega), h6]
      simp only [List.append_assoc]
theorem split_join {s t : ByteArray} {n : Nat} (hs : s.size = 2 * n) (ht : 1 ≤ ul t) : jl (splitL s t) t = intsOfStr s := by
  unfold splitL
  rw [if_neg (by omega), parts_join ht _ 0 [] (by omega) (Nat.zero_le _)]
  have e : s.extract (2 * 0) (2 * ul s) = evn s := rfl
  rw [e, evn_even hs]
  simp [jl, jn]
theorem parts_mem {s t : ByteArray} : ∀ f a : Nat, ∀ q, (∀ x ∈ q, x.size ≤ s.size) → ∀ x ∈ partsG s t f a q, x.size ≤ s.size
  | 0, a, q, h => h
  | f + 1, a, q, h => by
    have he : ∀ i j, (s.extract i j).size ≤ s.size := fun i j => by rw [ByteArray.size_extract]; omega
    unfold partsG
    split
    · intro x hx
      rcases List.mem_append.1 hx with hx | hx
      · exact h x hx
      · rw [List.mem_singleton.1 hx]; exact he _ _
    · refine parts_mem f _ _ fun x hx => ?_
      rcases List.mem_append.1 hx with hx | hx
      · exact h x hx
      · rw [List.mem_singleton.1 hx]; exact he _ _
theorem parts_len (s t : ByteArray) : ∀ f i q, (partsG s t f i q).length ≤ q.length + f + 1
  | 0, i, q => by
    simp only [partsG]
    omega
  | f + 1, i, q => by
    unfold partsG
    split
    · simp
    · refine Nat.le_trans (parts_len s t f _ _) ?_
      simp
      omega

/-! ### the order -/

theorem ltI_self : ∀ a : List Int, ltI a a = false
  | [] => rfl
  | x :: r => by simp [ltI, ltI_self r]
theorem cmpI_lt (a b : List Int) : decide (cmpI a b < 0) = ltI a b := by
  unfold cmpI
  cases h : ltI a b with
  | true => simp
  | false => rw [if_neg (by simp)]; split <;> simp
theorem cmpI_eq (a b : List Int) : (cmpI a b == 0) = decide (a = b) := by
  unfold cmpI
  by_cases h : a = b
  · subst h
    rw [ltI_self]
    simp
  · cases h2 : ltI a b with
    | true => simp [h]
    | false => simp [h]

/-! ### small letters twice -/

def loM (u : Int) : Int := if (65 ≤ u ∧ u ≤ 90) ∨ (192 ≤ u ∧ u ≤ 222 ∧ u ≠ 215) then u + 32 else u
theorem loU_eq (u : Int) : loU u = ub (loM u) := by
  unfold loU loM
  by_cases h : (65 ≤ u ∧ u ≤ 90) ∨ (192 ≤ u ∧ u ≤ 222 ∧ u ≠ 215)
  · rw [if_pos h]
    have : ((decide (u ≥ 65) && decide (u ≤ 90)) || (decide (u ≥ 192) && (decide (u ≤ 222) && (u != 215)))) = true := by
      simp only [Bool.or_eq_true, Bool.and_eq_true, decide_eq_true_eq, bne_iff_ne]
      omega
    rw [this]
    rfl
  · rw [if_neg h]
    have : ((decide (u ≥ 65) && decide (u ≤ 90)) || (decide (u ≥ 192) && (decide (u ≤ 222) && (u != 215)))) = false := by
      rw [Bool.eq_false_iff]
      simp only [ne_eq, Bool.or_eq_true, Bool.and_eq_true, decide_eq_true_eq, bne_iff_ne]
      omega
    rw [this]
    rfl
theorem loM_twice (u : Int) : loM (loM u) = loM u := by
  unfold loM
  repeat' split
  all_goals omega
theorem loM_lt {u : Int} (h : 0 ≤ u ∧ u ≤ 65535) : 0 ≤ loM u ∧ loM u ≤ 65535 := by
  unfold loM
  split <;> omega

theorem cat_ub (g : Nat → Int) : ∀ n, (cat (fun i => ub (g i)) n).length = 2 * n
  | 0 => rfl
  | n + 1 => by
    rw [cat, List.length_append, cat_ub g n]
    show 2 * n + 2 = _
    omega
theorem cat_ub_get (g : Nat → Int) : ∀ n i, i < n → (cat (fun i => ub (g i)) n).getD (2 * i) 0 = g i / 256 ∧ (cat (fun i => ub (g i)) n).getD (2 * i + 1) 0 = g i % 256
  | 0, i, h => by omega
  | n + 1, i, h => by
    have hl := cat_ub g n
    rw [cat]
    simp only [List.getD_eq_getElem?_getD]
    by_cases hi : i < n
    · have ih := cat_ub_get g n i hi
      simp only [List.getD_eq_getElem?_getD] at ih
      rw [List.getElem?_append_left (by omega), List.getElem?_append_left (by omega)]
      exact ih
    · have hin : i = n := by omega
      subst hin
      rw [List.getElem?_append_right (by omega), List.getElem?_append_right (by omega), hl, Nat.sub_self, show 2 * i + 1 - 2 * i = 1 by omega]
      exact ⟨rfl, rfl⟩
theorem cat_ub_bytes (g : Nat → Int) (hg : ∀ i, 0 ≤ g i ∧ g i ≤ 65535) : ∀ n, ∀ x ∈ cat (fun i => ub (g i)) n, 0 ≤ x ∧ x ≤ 255
  | 0, x, h => by cases h
  | n + 1, x, h => by
    rw [cat] at h
    rcases List.mem_append.1 h with h | h
    · exact cat_ub_bytes g hg n x h
    · have := hg n
      unfold ub at h
      simp only [List.mem_cons, List.not_mem_nil, or_false] at h
      rcases h with rfl | rfl <;> omega
theorem lowerL_eq (s : ByteArray) : lowerL s = cat (fun i => ub (loM (un s i))) (ul s) := by
  unfold lowerL
  exact cat_congr fun i _ => loU_eq _
theorem lower_twice (s : ByteArray) : strOfInts (lowerL (strOfInts (lowerL s))) = strOfInts (lowerL s) := by
  have hb := cat_ub_bytes (fun i => loM (un s i)) (fun i => loM_lt (un_lt s i)) (ul s)
  have hi : intsOfStr (strOfInts (lowerL s)) = lowerL s := by rw [lowerL_eq]; exact ints_str hb
  have hl : (strOfInts (lowerL s)).size = 2 * ul s := by
    rw [← intsOfStr_len, hi, lowerL_eq]
    exact cat_ub _ _
  have hu : ul (strOfInts (lowerL s)) = ul s := by
    unfold ul at hl ⊢
    omega
  have hun : ∀ i, i < ul s → un (strOfInts (lowerL s)) i = loM (un s i) := by
    intro i h
    unfold un
    rw [byteAt_ints, byteAt_ints, hi, lowerL_eq]
    obtain ⟨h1, h2⟩ := cat_ub_get (fun i => loM (un s i)) (ul s) i h
    rw [h1, h2]
    show loM (un s i) / 256 * 256 + loM (un s i) % 256 = loM (un s i)
    omega
  congr 1
  conv => lhs; rw [lowerL_eq, hu]
  conv => rhs; rw [lowerL_eq]
  exact cat_congr fun i h => by rw [hun i h, loM_twice]

/-! ### no white space twice -/

theorem byteAt_ext {s : ByteArray} {a b j : Nat} (h : j < b - a) : byteAt (s.extract a b) j = byteAt s (a + j) := by
  rw [byteAt_ints, byteAt_ints, ints_ext]
  simp only [List.getD_eq_getElem?_getD, List.getElem?_drop, List.getElem?_take]
  rw [if_pos (by omega)]
theorem un_ext {s : ByteArray} {a b i : Nat} (h : i < b - a) : un (s.extract (2 * a) (2 * b)) i = un s (a + i) := by
  unfold un
  rw [byteAt_ext (by omega), byteAt_ext (by omega), show 2 * a + 2 * i = 2 * (a + i) by omega, show 2 * a + (2 * i + 1) = 2 * (a + i) + 1 by omega]
theorem fromK_stop (s : ByteArray) : ∀ k i, fromK s k i < i + k → wh s (fromK s k i) = false
  | 0, i, h => by simp only [fromK] at h; omega
  | k + 1, i, h => by
    unfold fromK at h ⊢
    cases hw : wh s i with
    | true =>
      rw [hw] at h
      simp only [if_true] at h ⊢
      exact fromK_stop s k (i + 1) (by omega)
    | false => simpa using hw
theorem toK_stop (s : ByteArray) (a : Nat) : ∀ j m, toK s a j = m + 1 → a < m + 1 → wh s m = false
  | 0, m, h, _ => by simp only [toK] at h; omega
  | j + 1, m, h, ha => by
    unfold toK at h
    split at h
    · exact toK_stop s a j m h ha
    · next hc =>
      have : j = m := by omega
      subst this
      cases hw : wh s j with
      | false => rfl
      | true => exact absurd ⟨ha, hw⟩ hc
theorem trim_twice (s : ByteArray) : trimS (trimS s) = trimS s := by
  obtain ⟨h1, h2⟩ := wbounds s
  have hsz : (trimS s).size = 2 * (toW s - fromW s) := ext_size h1 h2
  have hu : ul (trimS s) = toW s - fromW s := by unfold ul; omega
  have hun : ∀ i, i < toW s - fromW s → wh (trimS s) i = wh s (fromW s + i) := by
    intro i h
    unfold wh
    rw [show un (trimS s) i = un s (fromW s + i) from un_ext h]
  have hf : fromW (trimS s) = 0 := by
    unfold fromW
    rw [hu]
    cases hk : toW s - fromW s with
    | zero => rfl
    | succ k =>
      unfold fromK
      rw [hun 0 (by omega), Nat.add_zero]
      have : wh s (fromW s) = false := fromK_stop s (ul s) 0 (by
        show fromW s < _
        omega)
      rw [this]
      rfl
  have ht : toW (trimS s) = ul (trimS s) := by
    unfold toW
    rw [hf, hu]
    cases hk : toW s - fromW s with
    | zero => rfl
    | succ k =>
      unfold toK
      have hw : wh (trimS s) k = false := by
        rw [hun k (by omega)]
        exact toK_stop s (fromW s) (ul s) (fromW s + k) (by show toW s = _; omega) (by omega)
      rw [if_neg (by rw [hw]; simp)]
  have e : trimS (trimS s) = (trimS s).extract (2 * 0) (2 * ul (trimS s)) := by
    conv => lhs; unfold trimS
    have h := hf
    have h' := ht
    unfold trimS at h h'
    rw [h, h']
    rfl
  rw [e]
  exact evn_even hsz

end Go.Proofs.Us

/- Texts: walks, written by the tool. -/
set_option maxRecDepth 100000
namespace Go.Proofs.Us
open Go Go.Ev
def rjoinS0 [mxi : MX] (l : List ByteArray) (t : ByteArray) (tl : Bool) (x0 : Int) (l0 : List Int) (n0 : Nat) : AS := { n := 37, fr := [(0, AV.sl 1 (Seq.strs l) tl), (1, AV.v (.string t)), (5, AV.row 1 0 l0.length l0.length false), (6, AV.v (.int .i64 x0))], hp := [(1, AObj.row 5 1 (.ints .u8 l0) n0)], nx := 2 }
def rjoinX0 [mxi : MX] (l : List ByteArray) (t : ByteArray) (tl : Bool) (l1 : List Int) (n1 : Nat) : AS := { n := 37, fr := [(5, AV.row 1 0 l1.length l1.length false)], hp := [(1, AObj.row 5 1 (.ints .u8 l1) n1)], nx := 2 }
-- 3 paths
theorem rjoinL0_1 [mxi : MX] (l : List ByteArray) (t : ByteArray) (tl : Bool) (x0 : Int) (l0 : List Int) (n0 : Nat) (h : AllP [decide (x0 < (↑l.length : Int)) = true, decide (x0 > (0 : Int)) = true, SZ t, inR IntKind.i64 ((2 : Int) * (↑(ul t) : Int)), (0 : Int) ≤ (2 : Int) * (↑(ul t) : Int) ∧ (2 : Int) * (↑(ul t) : Int) ≤ (↑t.size : Int), l0.length = l0.length, l0.length = l0.length, (l0 ++ intsOfStr (t.extract 0 ((2 : Int) * (↑(ul t) : Int)).toNat)).length * 1 ≤ 140737488355328, (0 : Int) ≤ x0 ∧ x0 < (↑l.length : Int), (0 : Int) ≤ x0 ∧ x0 < (↑l.length : Int), SZ (l.getD x0.toNat ByteArray.empty), inR IntKind.i64 ((2 : Int) * (↑(ul (l.getD x0.toNat ByteArray.empty)) : Int)), (0 : Int) ≤ (2 : Int) * (↑(ul (l.getD x0.toNat ByteArray.empty)) : Int) ∧ (2 : Int) * (↑(ul (l.getD x0.toNat ByteArray.empty)) : Int) ≤ (↑(l.getD x0.toNat ByteArray.empty).size : Int), (l0 ++ intsOfStr (t.extract 0 ((2 : Int) * (↑(ul t) : Int)).toNat)).length = (l0 ++ intsOfStr (t.extract 0 ((2 : Int) * (↑(ul t) : Int)).toNat)).length, (l0 ++ intsOfStr (t.extract 0 ((2 : Int) * (↑(ul t) : Int)).toNat)).length = (l0 ++ intsOfStr (t.extract 0 ((2 : Int) * (↑(ul t) : Int)).toNat)).length, (l0 ++ intsOfStr (t.extract 0 ((2 : Int) * (↑(ul t) : Int)).toNat) ++ intsOfStr ((l.getD x0.toNat ByteArray.empty).extract 0 ((2 : Int) * (↑(ul (l.getD x0.toNat ByteArray.empty)) : Int)).toNat)).length * 1 ≤ 140737488355328, inR IntKind.i64 (x0 + (1 : Int))]) : To Tryd.prog (loopAt Tryd.f58 0) ({ n := 37, fr := [(0, AV.sl 1 (Seq.strs l) tl), (1, AV.v (.string t)), (5, AV.row 1 0 l0.length l0.length false), (6, AV.v (.int .i64 x0))], hp := [(1, AObj.row 5 1 (.ints .u8 l0) n0)], nx := 2 }) (.normal) { n := 37, fr := [(0, AV.sl 1 (Seq.strs l) tl), (1, AV.v (.string t)), (5, AV.row 1 0 (l0 ++ intsOfStr (t.extract 0 ((2 : Int) * (↑(ul t) : Int)).toNat) ++ intsOfStr ((l.getD x0.toNat ByteArray.empty).extract 0 ((2 : Int) * (↑(ul (l.getD x0.toNat ByteArray.empty)) : Int)).toNat)).length (l0 ++ intsOfStr (t.extract 0 ((2 : Int) * (↑(ul t) : Int)).toNat) ++ intsOfStr ((l.getD x0.toNat ByteArray.empty).extract 0 ((2 : Int) * (↑(ul (l.getD x0.toNat ByteArray.empty)) : Int)).toNat)).length false), (6, AV.v (.int .i64 (x0 + (1 : Int))))], hp := [(1, AObj.row 5 1 (.ints .u8 (l0 ++ intsOfStr (t.extract 0 ((2 : Int) * (↑(ul t) : Int)).toNat) ++ intsOfStr ((l.getD x0.toNat ByteArray.empty).extract 0 ((2 : Int) * (↑(ul (l.getD x0.toNat ByteArray.empty)) : Int)).toNat))) n0)], nx := 2 } :=
  evW_to hm soX6 (hs := [CHint.ops 3 [(3, Hint.b true)], CHint.ops 5 [(1, Hint.b true)]]) (slots := [0, 1, 5, 6]) (keys := [1]) (nx := 2) (c := _) (by kernel_rfl) h
theorem rjoinL0_2 [mxi : MX] (l : List ByteArray) (t : ByteArray) (tl : Bool) (x0 : Int) (l0 : List Int) (n0 : Nat) (h : AllP [decide (x0 < (↑l.length : Int)) = true, decide (x0 > (0 : Int)) = false, (0 : Int) ≤ x0 ∧ x0 < (↑l.length : Int), (0 : Int) ≤ x0 ∧ x0 < (↑l.length : Int), SZ (l.getD x0.toNat ByteArray.empty), inR IntKind.i64 ((2 : Int) * (↑(ul (l.getD x0.toNat ByteArray.empty)) : Int)), (0 : Int) ≤ (2 : Int) * (↑(ul (l.getD x0.toNat ByteArray.empty)) : Int) ∧ (2 : Int) * (↑(ul (l.getD x0.toNat ByteArray.empty)) : Int) ≤ (↑(l.getD x0.toNat ByteArray.empty).size : Int), l0.length = l0.length, l0.length = l0.length, (l0 ++ intsOfStr ((l.getD x0.toNat ByteArray.empty).extract 0 ((2 : Int) * (↑(ul (l.getD x0.toNat ByteArray.empty)) : Int)).toNat)).length * 1 ≤ 140737488355328, inR IntKind.i64 (x0 + (1 : Int))]) : To Tryd.prog (loopAt Tryd.f58 0) ({ n := 37, fr := [(0, AV.sl 1 (Seq.strs l) tl), (1, AV.v (.string t)), (5, AV.row 1 0 l0.length l0.length false), (6, AV.v (.int .i64 x0))], hp := [(1, AObj.row 5 1 (.ints .u8 l0) n0)], nx := 2 }) (.normal) { n := 37, fr := [(0, AV.sl 1 (Seq.strs l) tl), (1, AV.v (.string t)), (5, AV.row 1 0 (l0 ++ intsOfStr ((l.getD x0.toNat ByteArray.empty).extract 0 ((2 : Int) * (↑(ul (l.getD x0.toNat ByteArray.empty)) : Int)).toNat)).length (l0 ++ intsOfStr ((l.getD x0.toNat ByteArray.empty).extract 0 ((2 : Int) * (↑(ul (l.getD x0.toNat ByteArray.empty)) : Int)).toNat)).length false), (6, AV.v (.int .i64 (x0 + (1 : Int))))], hp := [(1, AObj.row 5 1 (.ints .u8 (l0 ++ intsOfStr ((l.getD x0.toNat ByteArray.empty).extract 0 ((2 : Int) * (↑(ul (l.getD x0.toNat ByteArray.empty)) : Int)).toNat))) n0)], nx := 2 } :=
  evW_to hm soX6 (hs := [CHint.ops 3 [(3, Hint.b true)], CHint.ops 5 [(1, Hint.b false)]]) (slots := [0, 1, 5, 6]) (keys := [1]) (nx := 2) (c := _) (by kernel_rfl) h
theorem rjoinL0_3 [mxi : MX] (l : List ByteArray) (t : ByteArray) (tl : Bool) (x0 : Int) (l0 : List Int) (n0 : Nat) (h : AllP [decide (x0 < (↑l.length : Int)) = false]) : To Tryd.prog (loopAt Tryd.f58 0) ({ n := 37, fr := [(0, AV.sl 1 (Seq.strs l) tl), (1, AV.v (.string t)), (5, AV.row 1 0 l0.length l0.length false), (6, AV.v (.int .i64 x0))], hp := [(1, AObj.row 5 1 (.ints .u8 l0) n0)], nx := 2 }) (Exit.exit 0) { n := 37, fr := [(5, AV.row 1 0 l0.length l0.length false)], hp := [(1, AObj.row 5 1 (.ints .u8 l0) n0)], nx := 2 } :=
  evW_to hm soX6 (hs := [CHint.ops 3 [(3, Hint.b false)]]) (slots := [5]) (keys := [1]) (nx := 2) (c := _) (by kernel_rfl) h
-- 1 paths
theorem rjoinF1 [mxi : MX] (l : List ByteArray) (t : ByteArray) (tl : Bool) (l1 : List Int) (n1 : Nat) (h : AllP [LoopTo Tryd.prog (loopAt Tryd.f58 0) { n := 37, fr := [(0, AV.sl 1 (Seq.strs l) tl), (1, AV.v (.string t)), (5, AV.row 1 0 0 0 false), (6, AV.v (.int .i64 (0 : Int)))], hp := [(1, AObj.row 5 1 (.ints .u8 []) 0)], nx := 2 } (Exit.exit 0) { n := 37, fr := [(5, AV.row 1 0 l1.length l1.length false)], hp := [(1, AObj.row 5 1 (.ints .u8 l1) n1)], nx := 2 }, l1.length = l1.length, n1 ≤ l1.length]) : PureTo Tryd.prog 58 [.sl 1 (.strs l) tl, .v (.string t)] (AV.v (.string (strOfInts l1))) :=
  evFn_pure hm soX6 (fn := Tryd.f58) rfl rfl (ti := false) (hs := [CHint.ops 1 [(0, Hint.nil 5)], CHint.loop [0, 1, 5, 6] [1] 2 (Exit.exit 0) { n := 37, fr := [(5, AV.row 1 0 l1.length l1.length false)], hp := [(1, AObj.row (5 : TypeId) 1 (.ints .u8 l1) n1)], nx := 2 }]) (c := _) (by kernel_rfl) h
end Go.Proofs.Us

/- Texts: walks, written by the tool. -/
set_option maxRecDepth 100000
namespace Go.Proofs.Us
open Go Go.Ev
def txtS0 (a b : List ByteArray) (ta tb : Bool) (x0 : Int) : AS := { n := 26, fr := [(0, AV.sl 1 (Seq.strs a) ta), (1, AV.sl 1 (Seq.strs b) tb), (5, AV.v (.int .i64 x0))], hp := [], nx := 0 }
def txtX0 (a b : List ByteArray) (ta tb : Bool)  : AS := { n := 26, fr := [], hp := [], nx := 0 }
def txtX0_1 (a b : List ByteArray) (ta tb : Bool) (b0 : Bool) : AS := { n := 26, fr := [(4, AV.v (.bool b0))], hp := [], nx := 0 }
-- 3 paths
theorem txtL0_1 (a b : List ByteArray) (ta tb : Bool) (x0 : Int) (h : AllP [decide (x0 < (↑a.length : Int)) = true, (0 : Int) ≤ x0 ∧ x0 < (↑a.length : Int), (0 : Int) ≤ x0 ∧ x0 < (↑b.length : Int), (!(a.getD x0.toNat ByteArray.empty).toList == (b.getD x0.toNat ByteArray.empty).toList) = true]) : To Tryd.prog (loopAt Tryd.f54 0) ({ n := 26, fr := [(0, AV.sl 1 (Seq.strs a) ta), (1, AV.sl 1 (Seq.strs b) tb), (5, AV.v (.int .i64 x0))], hp := [], nx := 0 }) (Exit.ret) { n := 26, fr := [(4, AV.v (.bool false))], hp := [], nx := 0 } :=
  evW_to hm sok0 (hs := [CHint.ops 4 [(3, Hint.b true)], CHint.ops 6 [(8, Hint.b true)]]) (slots := [4]) (keys := []) (nx := 0) (c := _) (by kernel_rfl) h
theorem txtL0_2 (a b : List ByteArray) (ta tb : Bool) (x0 : Int) (h : AllP [decide (x0 < (↑a.length : Int)) = true, (0 : Int) ≤ x0 ∧ x0 < (↑a.length : Int), (0 : Int) ≤ x0 ∧ x0 < (↑b.length : Int), (!(a.getD x0.toNat ByteArray.empty).toList == (b.getD x0.toNat ByteArray.empty).toList) = false, inR IntKind.i64 (x0 + (1 : Int))]) : To Tryd.prog (loopAt Tryd.f54 0) ({ n := 26, fr := [(0, AV.sl 1 (Seq.strs a) ta), (1, AV.sl 1 (Seq.strs b) tb), (5, AV.v (.int .i64 x0))], hp := [], nx := 0 }) (.normal) { n := 26, fr := [(0, AV.sl 1 (Seq.strs a) ta), (1, AV.sl 1 (Seq.strs b) tb), (5, AV.v (.int .i64 (x0 + (1 : Int))))], hp := [], nx := 0 } :=
  evW_to hm sok0 (hs := [CHint.ops 4 [(3, Hint.b true)], CHint.ops 6 [(8, Hint.b false)]]) (slots := [0, 1, 5]) (keys := []) (nx := 0) (c := _) (by kernel_rfl) h
theorem txtL0_3 (a b : List ByteArray) (ta tb : Bool) (x0 : Int) (h : AllP [decide (x0 < (↑a.length : Int)) = false]) : To Tryd.prog (loopAt Tryd.f54 0) ({ n := 26, fr := [(0, AV.sl 1 (Seq.strs a) ta), (1, AV.sl 1 (Seq.strs b) tb), (5, AV.v (.int .i64 x0))], hp := [], nx := 0 }) (Exit.exit 0) { n := 26, fr := [], hp := [], nx := 0 } :=
  evW_to hm sok0 (hs := [CHint.ops 4 [(3, Hint.b false)]]) (slots := []) (keys := []) (nx := 0) (c := _) (by kernel_rfl) h
-- 3 paths
theorem txtF1 (a b : List ByteArray) (ta tb : Bool) (b0 : Bool) (h : AllP [((↑a.length : Int) != (↑b.length : Int)) = true]) : PureTo Tryd.prog 54 [.sl 1 (.strs a) ta, .sl 1 (.strs b) tb] (AV.v (.bool false)) :=
  evFn_pure hm sok0 (fn := Tryd.f54) rfl rfl (ti := false) (hs := [CHint.ops 1 [(4, Hint.b true)]]) (c := _) (by kernel_rfl) h
theorem txtF2 (a b : List ByteArray) (ta tb : Bool) (b0 : Bool) (h : AllP [((↑a.length : Int) != (↑b.length : Int)) = false, LoopTo Tryd.prog (loopAt Tryd.f54 0) { n := 26, fr := [(0, AV.sl 1 (Seq.strs a) ta), (1, AV.sl 1 (Seq.strs b) tb), (5, AV.v (.int .i64 (0 : Int)))], hp := [], nx := 0 } (Exit.exit 0) { n := 26, fr := [], hp := [], nx := 0 }]) : PureTo Tryd.prog 54 [.sl 1 (.strs a) ta, .sl 1 (.strs b) tb] (AV.v (.bool true)) :=
  evFn_pure hm sok0 (fn := Tryd.f54) rfl rfl (ti := false) (hs := [CHint.ops 1 [(4, Hint.b false)], CHint.loop [0, 1, 5] [] 0 (Exit.exit 0) { n := 26, fr := [], hp := [], nx := 0 }]) (c := _) (by kernel_rfl) h
theorem txtF3 (a b : List ByteArray) (ta tb : Bool) (b0 : Bool) (h : AllP [((↑a.length : Int) != (↑b.length : Int)) = false, LoopTo Tryd.prog (loopAt Tryd.f54 0) { n := 26, fr := [(0, AV.sl 1 (Seq.strs a) ta), (1, AV.sl 1 (Seq.strs b) tb), (5, AV.v (.int .i64 (0 : Int)))], hp := [], nx := 0 } Exit.ret { n := 26, fr := [(4, AV.v (.bool b0))], hp := [], nx := 0 }]) : PureTo Tryd.prog 54 [.sl 1 (.strs a) ta, .sl 1 (.strs b) tb] (AV.v (.bool b0)) :=
  evFn_pure hm sok0 (fn := Tryd.f54) rfl rfl (ti := false) (hs := [CHint.ops 1 [(4, Hint.b false)], CHint.loop [0, 1, 5] [] 0 Exit.ret { n := 26, fr := [(4, AV.v (.bool b0))], hp := [], nx := 0 }]) (c := _) (by kernel_rfl) h
end Go.Proofs.Us

/- Texts: two lists of texts alike. -/
set_option maxRecDepth 100000
namespace Go.Proofs.Us
open Go Go.Ev

theorem txt_loop (a : List ByteArray) (ta tb : Bool) : ∀ k i : Nat, i + k = a.length → a.length < 4294967296 →
    LoopTo Tryd.prog (loopAt Tryd.f54 0) (txtS0 a a ta tb i) (Exit.exit 0) { n := 26, fr := [], hp := [], nx := 0 } := by
  intro k
  induction k with
  | zero =>
    intro i h _
    exact .done (by simp) (txtL0_3 a a ta tb i ⟨by simp; omega, trivial⟩)
  | succ k ih =>
    intro i h hl
    exact .step (txtL0_2 a a ta tb i ⟨by simp; omega, ⟨by omega, by omega⟩, ⟨by omega, by omega⟩, by simp, ⟨by omega, by omega⟩, trivial⟩) (ih (i + 1) (by omega) hl)
theorem txt_pure (a : List ByteArray) (ta tb : Bool) (h : a.length < 4294967296) : PureTo Tryd.prog 54 [.sl 1 (.strs a) ta, .sl 1 (.strs a) tb] (.v (.bool true)) :=
  txtF2 a a ta tb true ⟨by simp, txt_loop a ta tb a.length 0 (by omega) h, trivial⟩
end Go.Proofs.Us

/- Texts: Join's two functions come to one; the table for the law. -/
set_option maxRecDepth 100000
namespace Go.Proofs.Us
open Go Go.Ev
variable [mxi : MX]

section
variable {l : List ByteArray} {t : ByteArray} (tl : Bool)

omit mxi in
theorem take_evn (s : ByteArray) : s.extract 0 ((2 : Int) * (ul s : Int)).toNat = evn s := by
  rw [show ((2 : Int) * (ul s : Int)).toNat = 2 * ul s by omega]
  rfl

theorem rjoin_loop (h : JOK l t) : ∀ k i : Nat, i + k = l.length → ∀ fl : Nat, fl ≤ (jn l t i).length → ∃ fl', fl' ≤ (jn l t l.length).length ∧ LoopTo Tryd.prog (loopAt Tryd.f58 0) (rjoinS0 l t tl i (jn l t i) fl) (Exit.exit 0) (rjoinX0 l t tl (jn l t l.length) fl') := by
  intro k
  induction k with
  | zero =>
    intro i hi fl hf
    have hin : i = l.length := by omega
    subst hin
    exact ⟨fl, hf, .done (by simp) (rjoinL0_3 l t tl _ _ fl ⟨by simp, trivial⟩)⟩
  | succ k ih =>
    intro i hi fl hf
    have hl := h.len (i := i + 1) (by omega)
    have hn := h.hN
    have hu : ∀ s : ByteArray, 2 * ul s ≤ s.size := fun s => by unfold ul; omega
    have hzt := h.hT
    have hzx := h.at (i := i) (by omega)
    have h1 := hu t
    have h2 := hu (l.getD i ByteArray.empty)
    have hzt' := hzt
    have hzx' := hzx
    unfold SZ at hzt' hzx'
    obtain ⟨fl', hf', hl'⟩ := ih (i + 1) (by omega) fl (Nat.le_trans hf (jn_step l t i))
    refine ⟨fl', hf', ?_⟩
    by_cases h0 : i = 0
    · subst h0
      have e : jn l t (0 + 1) = jn l t 0 ++ intsOfStr (evn (l.getD 0 ByteArray.empty)) := by simp [jn]
      have hst := rjoinL0_2 l t tl ((0 : Nat) : Int) (jn l t 0) fl
      rw [Int.toNat_natCast 0, take_evn, ← e] at hst
      exact .step (hst ⟨by simp; omega, by simp, by omega, by omega, hzx, by simp only [inR]; omega, by omega, rfl, rfl, by omega, by simp [inR], trivial⟩) hl'
    · have e : jn l t (i + 1) = jn l t i ++ intsOfStr (evn t) ++ intsOfStr (evn (l.getD i ByteArray.empty)) := by
        rw [jn, if_neg h0]
      have hm : (jn l t i ++ intsOfStr (evn t)).length ≤ 140737488355328 := by
        have hl2 := hl
        rw [e, List.length_append] at hl2
        omega
      have hst := rjoinL0_1 l t tl (i : Int) (jn l t i) fl
      rw [Int.toNat_natCast i, take_evn, take_evn, ← e] at hst
      exact .step (hst ⟨by simp; omega, by simp; omega, hzt, by simp only [inR]; omega, by omega, rfl, rfl, by omega, by omega, by omega, hzx, by simp only [inR]; omega, by omega, rfl, rfl, by omega, by simp only [inR]; omega, trivial⟩) hl'

theorem rjoin_c (h : JOK l t) : PureTo Tryd.prog 58 [.sl 1 (.strs l) tl, .v (.string t)] (.v (.string (strOfInts (jn l t l.length)))) := by
  obtain ⟨fl', hf, hl⟩ := rjoin_loop tl h l.length 0 (by omega) 0 (Nat.zero_le _)
  exact rjoinF1 l t tl _ fl' ⟨hl, rfl, hf, trivial⟩

end

def sigJoin : List AV → Option (AV × List Prop)
  | [.sl 1 (.strs l) _, .v (.string t)] => some (.v (.string (strOfInts (jn l t l.length))), [JOK l t])
  | _ => none
def sigTxt : List AV → Option (AV × List Prop)
  | [.sl 1 (.strs a) _, .sl 1 (.strs b) _] => some (.v (.bool true), [a = b, a.length < 4294967296])
  | _ => none
def SX7 : SGT := (57, .p sigJoin) :: (58, .p sigJoin) :: (54, .p sigTxt) :: (55, .p (sigSS fun s t => (.sl 1 (.strs (splitL s t)) false, [s.size + 1 ≤ 1048576, SM t]))) :: (56, .p (sigSS fun s t => (.sl 1 (.strs (splitL s t)) false, [s.size + 1 ≤ 1048576, SM t]))) :: SX6
theorem soX7 : SigsOK Tryd.prog SX7 := by
  refine sigs_cons (sigs_cons (sigs_cons (sigs_cons2 (sigs_cons2 soX6 fun s t h => ?_) fun s t h => ?_) ?_) ?_) ?_
  · exact rsplit_c h.1 h.2.1
  · exact split_c h.1 h.2.1
  · intro ys r c h hc
    unfold sigTxt at h
    split at h
    · cases h
      obtain ⟨rfl, h1, _⟩ := hc
      exact PureTo.more MX.mx (txt_pure _ _ _ h1)
    · cases h
  · intro ys r c h hc
    unfold sigJoin at h
    split at h
    · cases h; exact rjoin_c _ hc.1
    · cases h
  · intro ys r c h hc
    unfold sigJoin at h
    split at h
    · cases h; exact join_c _ hc.1
    · cases h

end Go.Proofs.Us

/- Texts: the table for the last law. -/
set_option maxRecDepth 100000
namespace Go.Proofs.Us
open Go Go.Ev
variable [mxi : MX]

def SX8 : SGT := (44, .p (sigS fun s => (.v (.string (trimS s)), [SM s]))) :: (42, .p (sigS fun s => (.v (.string (strOfInts (lowerL s))), [SM s]))) ::
  (21, .p (sigSII fun s i j => (.v (.string (slice s i j)), [SZ s]))) :: SX7
theorem soX8 : SigsOK Tryd.prog SX8 := by
  refine sigs_cons1 (sigs_cons1 (more_sig rfl soX7) fun s h => ?_) fun s h => ?_
  · exact PureTo.more MX.mx (lower_c h.1)
  · exact PureTo.more MX.mx (trim_c h.1)

end Go.Proofs.Us

/- Texts: walks, written by the tool. -/
set_option maxRecDepth 100000
namespace Go.Proofs.Us
open Go Go.Ev

theorem lawWholeF1 [mxi : MX] (s t : ByteArray) (at_ : Int) (h : AllP [(2 : Int) ≠ (0 : Int), ((↑s.size : Int).tmod (2 : Int) == (1 : Int)) = true]) : PureTo Tryd.prog 13 [.v (.string s), .v (.string t), .v (.int .i64 at_)] (AV.v (.bool true)) :=
  evFn_pure hm soX8 (fn := Tryd.f13) rfl rfl (ti := false) (hs := [CHint.ops 1 [(3, Hint.b true)]]) (c := _) (by kernel_rfl) h
theorem lawWholeF2 [mxi : MX] (s t : ByteArray) (at_ : Int) (h : AllP [(2 : Int) ≠ (0 : Int), ((↑s.size : Int).tmod (2 : Int) == (1 : Int)) = false, (2 : Int) ≠ (0 : Int), ((↑t.size : Int).tmod (2 : Int) == (1 : Int)) = true]) : PureTo Tryd.prog 13 [.v (.string s), .v (.string t), .v (.int .i64 at_)] (AV.v (.bool true)) :=
  evFn_pure hm soX8 (fn := Tryd.f13) rfl rfl (ti := false) (hs := [CHint.ops 1 [(3, Hint.b false), (8, Hint.b true)]]) (c := _) (by kernel_rfl) h
theorem lawWholeF5 [mxi : MX] (s t : ByteArray) (at_ : Int) (h : AllP [(2 : Int) ≠ (0 : Int), ((↑s.size : Int).tmod (2 : Int) == (1 : Int)) = false, (2 : Int) ≠ (0 : Int), ((↑t.size : Int).tmod (2 : Int) == (1 : Int)) = false, decide ((↑t.size : Int) > (0 : Int)) = true, s.size + 1 ≤ 1048576, SM t, JOK (splitL s t) t, (!(strOfInts (jn (splitL s t) t (splitL s t).length)).toList == s.toList) = false, decide (at_ ≥ (0 : Int)) = true, (2 : Int) ≠ (0 : Int), inR IntKind.i64 ((↑s.size : Int).tdiv (2 : Int)), decide (at_ ≤ (↑s.size : Int).tdiv (2 : Int)) = true, SZ s, SZ s, SZ s, (↑((slice s (0 : Int) at_).size + (slice s at_ (↑(ul s) : Int)).size) : Int) ≤ (9223372036854775807 : Int), (!(slice s (0 : Int) at_ ++ slice s at_ (↑(ul s) : Int)).toList == s.toList) = false, SM s, SM s, SZ s, SZ t, decide (cmpS s t < (0 : Int)) = true, Op.bytesLess s.toList t.toList = true, SZ s, SZ t, (cmpS s t == (0 : Int)) = true, (s.toList == t.toList) = true, SM (trimS s), ((trimS (trimS s)).toList == (trimS s).toList) = true, SM (strOfInts (lowerL s)), ((strOfInts (lowerL (strOfInts (lowerL s)))).toList == (strOfInts (lowerL s)).toList) = true]) : PureTo Tryd.prog 13 [.v (.string s), .v (.string t), .v (.int .i64 at_)] (AV.v (.bool true)) :=
  evFn_pure hm soX8 (fn := Tryd.f13) rfl rfl (ti := false) (hs := [CHint.ops 1 [(3, Hint.b false), (8, Hint.b false)], CHint.ops 3 [(2, Hint.b true), (10, Hint.b false)], CHint.ops 5 [(1, Hint.b true), (7, Hint.b true), (20, Hint.b false)], CHint.ops 9 [(3, Hint.b true), (6, Hint.b true), (12, Hint.b true), (15, Hint.b true), (22, Hint.b true), (28, Hint.b true)]]) (c := _) (by kernel_rfl) h
theorem lawWholeF10 [mxi : MX] (s t : ByteArray) (at_ : Int) (h : AllP [(2 : Int) ≠ (0 : Int), ((↑s.size : Int).tmod (2 : Int) == (1 : Int)) = false, (2 : Int) ≠ (0 : Int), ((↑t.size : Int).tmod (2 : Int) == (1 : Int)) = false, decide ((↑t.size : Int) > (0 : Int)) = true, s.size + 1 ≤ 1048576, SM t, JOK (splitL s t) t, (!(strOfInts (jn (splitL s t) t (splitL s t).length)).toList == s.toList) = false, decide (at_ ≥ (0 : Int)) = true, (2 : Int) ≠ (0 : Int), inR IntKind.i64 ((↑s.size : Int).tdiv (2 : Int)), decide (at_ ≤ (↑s.size : Int).tdiv (2 : Int)) = true, SZ s, SZ s, SZ s, (↑((slice s (0 : Int) at_).size + (slice s at_ (↑(ul s) : Int)).size) : Int) ≤ (9223372036854775807 : Int), (!(slice s (0 : Int) at_ ++ slice s at_ (↑(ul s) : Int)).toList == s.toList) = false, SM s, SM s, SZ s, SZ t, decide (cmpS s t < (0 : Int)) = true, Op.bytesLess s.toList t.toList = true, SZ s, SZ t, (cmpS s t == (0 : Int)) = false, (s.toList == t.toList) = false, SM (trimS s), ((trimS (trimS s)).toList == (trimS s).toList) = true, SM (strOfInts (lowerL s)), ((strOfInts (lowerL (strOfInts (lowerL s)))).toList == (strOfInts (lowerL s)).toList) = true]) : PureTo Tryd.prog 13 [.v (.string s), .v (.string t), .v (.int .i64 at_)] (AV.v (.bool true)) :=
  evFn_pure hm soX8 (fn := Tryd.f13) rfl rfl (ti := false) (hs := [CHint.ops 1 [(3, Hint.b false), (8, Hint.b false)], CHint.ops 3 [(2, Hint.b true), (10, Hint.b false)], CHint.ops 5 [(1, Hint.b true), (7, Hint.b true), (20, Hint.b false)], CHint.ops 9 [(3, Hint.b true), (6, Hint.b true), (12, Hint.b false), (15, Hint.b false), (22, Hint.b true), (28, Hint.b true)]]) (c := _) (by kernel_rfl) h
theorem lawWholeF15 [mxi : MX] (s t : ByteArray) (at_ : Int) (h : AllP [(2 : Int) ≠ (0 : Int), ((↑s.size : Int).tmod (2 : Int) == (1 : Int)) = false, (2 : Int) ≠ (0 : Int), ((↑t.size : Int).tmod (2 : Int) == (1 : Int)) = false, decide ((↑t.size : Int) > (0 : Int)) = true, s.size + 1 ≤ 1048576, SM t, JOK (splitL s t) t, (!(strOfInts (jn (splitL s t) t (splitL s t).length)).toList == s.toList) = false, decide (at_ ≥ (0 : Int)) = true, (2 : Int) ≠ (0 : Int), inR IntKind.i64 ((↑s.size : Int).tdiv (2 : Int)), decide (at_ ≤ (↑s.size : Int).tdiv (2 : Int)) = true, SZ s, SZ s, SZ s, (↑((slice s (0 : Int) at_).size + (slice s at_ (↑(ul s) : Int)).size) : Int) ≤ (9223372036854775807 : Int), (!(slice s (0 : Int) at_ ++ slice s at_ (↑(ul s) : Int)).toList == s.toList) = false, SM s, SM s, SZ s, SZ t, decide (cmpS s t < (0 : Int)) = false, Op.bytesLess s.toList t.toList = false, SZ s, SZ t, (cmpS s t == (0 : Int)) = true, (s.toList == t.toList) = true, SM (trimS s), ((trimS (trimS s)).toList == (trimS s).toList) = true, SM (strOfInts (lowerL s)), ((strOfInts (lowerL (strOfInts (lowerL s)))).toList == (strOfInts (lowerL s)).toList) = true]) : PureTo Tryd.prog 13 [.v (.string s), .v (.string t), .v (.int .i64 at_)] (AV.v (.bool true)) :=
  evFn_pure hm soX8 (fn := Tryd.f13) rfl rfl (ti := false) (hs := [CHint.ops 1 [(3, Hint.b false), (8, Hint.b false)], CHint.ops 3 [(2, Hint.b true), (10, Hint.b false)], CHint.ops 5 [(1, Hint.b true), (7, Hint.b true), (20, Hint.b false)], CHint.ops 9 [(3, Hint.b false), (6, Hint.b false), (12, Hint.b true), (15, Hint.b true), (22, Hint.b true), (28, Hint.b true)]]) (c := _) (by kernel_rfl) h
theorem lawWholeF20 [mxi : MX] (s t : ByteArray) (at_ : Int) (h : AllP [(2 : Int) ≠ (0 : Int), ((↑s.size : Int).tmod (2 : Int) == (1 : Int)) = false, (2 : Int) ≠ (0 : Int), ((↑t.size : Int).tmod (2 : Int) == (1 : Int)) = false, decide ((↑t.size : Int) > (0 : Int)) = true, s.size + 1 ≤ 1048576, SM t, JOK (splitL s t) t, (!(strOfInts (jn (splitL s t) t (splitL s t).length)).toList == s.toList) = false, decide (at_ ≥ (0 : Int)) = true, (2 : Int) ≠ (0 : Int), inR IntKind.i64 ((↑s.size : Int).tdiv (2 : Int)), decide (at_ ≤ (↑s.size : Int).tdiv (2 : Int)) = true, SZ s, SZ s, SZ s, (↑((slice s (0 : Int) at_).size + (slice s at_ (↑(ul s) : Int)).size) : Int) ≤ (9223372036854775807 : Int), (!(slice s (0 : Int) at_ ++ slice s at_ (↑(ul s) : Int)).toList == s.toList) = false, SM s, SM s, SZ s, SZ t, decide (cmpS s t < (0 : Int)) = false, Op.bytesLess s.toList t.toList = false, SZ s, SZ t, (cmpS s t == (0 : Int)) = false, (s.toList == t.toList) = false, SM (trimS s), ((trimS (trimS s)).toList == (trimS s).toList) = true, SM (strOfInts (lowerL s)), ((strOfInts (lowerL (strOfInts (lowerL s)))).toList == (strOfInts (lowerL s)).toList) = true]) : PureTo Tryd.prog 13 [.v (.string s), .v (.string t), .v (.int .i64 at_)] (AV.v (.bool true)) :=
  evFn_pure hm soX8 (fn := Tryd.f13) rfl rfl (ti := false) (hs := [CHint.ops 1 [(3, Hint.b false), (8, Hint.b false)], CHint.ops 3 [(2, Hint.b true), (10, Hint.b false)], CHint.ops 5 [(1, Hint.b true), (7, Hint.b true), (20, Hint.b false)], CHint.ops 9 [(3, Hint.b false), (6, Hint.b false), (12, Hint.b false), (15, Hint.b false), (22, Hint.b true), (28, Hint.b true)]]) (c := _) (by kernel_rfl) h
theorem lawWholeF23 [mxi : MX] (s t : ByteArray) (at_ : Int) (h : AllP [(2 : Int) ≠ (0 : Int), ((↑s.size : Int).tmod (2 : Int) == (1 : Int)) = false, (2 : Int) ≠ (0 : Int), ((↑t.size : Int).tmod (2 : Int) == (1 : Int)) = false, decide ((↑t.size : Int) > (0 : Int)) = true, s.size + 1 ≤ 1048576, SM t, JOK (splitL s t) t, (!(strOfInts (jn (splitL s t) t (splitL s t).length)).toList == s.toList) = false, decide (at_ ≥ (0 : Int)) = true, (2 : Int) ≠ (0 : Int), inR IntKind.i64 ((↑s.size : Int).tdiv (2 : Int)), decide (at_ ≤ (↑s.size : Int).tdiv (2 : Int)) = false, SM s, SM s, SZ s, SZ t, decide (cmpS s t < (0 : Int)) = true, Op.bytesLess s.toList t.toList = true, SZ s, SZ t, (cmpS s t == (0 : Int)) = true, (s.toList == t.toList) = true, SM (trimS s), ((trimS (trimS s)).toList == (trimS s).toList) = true, SM (strOfInts (lowerL s)), ((strOfInts (lowerL (strOfInts (lowerL s)))).toList == (strOfInts (lowerL s)).toList) = true]) : PureTo Tryd.prog 13 [.v (.string s), .v (.string t), .v (.int .i64 at_)] (AV.v (.bool true)) :=
  evFn_pure hm soX8 (fn := Tryd.f13) rfl rfl (ti := false) (hs := [CHint.ops 1 [(3, Hint.b false), (8, Hint.b false)], CHint.ops 3 [(2, Hint.b true), (10, Hint.b false)], CHint.ops 5 [(1, Hint.b true), (7, Hint.b false)], CHint.ops 9 [(3, Hint.b true), (6, Hint.b true), (12, Hint.b true), (15, Hint.b true), (22, Hint.b true), (28, Hint.b true)]]) (c := _) (by kernel_rfl) h
theorem lawWholeF28 [mxi : MX] (s t : ByteArray) (at_ : Int) (h : AllP [(2 : Int) ≠ (0 : Int), ((↑s.size : Int).tmod (2 : Int) == (1 : Int)) = false, (2 : Int) ≠ (0 : Int), ((↑t.size : Int).tmod (2 : Int) == (1 : Int)) = false, decide ((↑t.size : Int) > (0 : Int)) = true, s.size + 1 ≤ 1048576, SM t, JOK (splitL s t) t, (!(strOfInts (jn (splitL s t) t (splitL s t).length)).toList == s.toList) = false, decide (at_ ≥ (0 : Int)) = true, (2 : Int) ≠ (0 : Int), inR IntKind.i64 ((↑s.size : Int).tdiv (2 : Int)), decide (at_ ≤ (↑s.size : Int).tdiv (2 : Int)) = false, SM s, SM s, SZ s, SZ t, decide (cmpS s t < (0 : Int)) = true, Op.bytesLess s.toList t.toList = true, SZ s, SZ t, (cmpS s t == (0 : Int)) = false, (s.toList == t.toList) = false, SM (trimS s), ((trimS (trimS s)).toList == (trimS s).toList) = true, SM (strOfInts (lowerL s)), ((strOfInts (lowerL (strOfInts (lowerL s)))).toList == (strOfInts (lowerL s)).toList) = true]) : PureTo Tryd.prog 13 [.v (.string s), .v (.string t), .v (.int .i64 at_)] (AV.v (.bool true)) :=
  evFn_pure hm soX8 (fn := Tryd.f13) rfl rfl (ti := false) (hs := [CHint.ops 1 [(3, Hint.b false), (8, Hint.b false)], CHint.ops 3 [(2, Hint.b true), (10, Hint.b false)], CHint.ops 5 [(1, Hint.b true), (7, Hint.b false)], CHint.ops 9 [(3, Hint.b true), (6, Hint.b true), (12, Hint.b false), (15, Hint.b false), (22, Hint.b true), (28, Hint.b true)]]) (c := _) (by kernel_rfl) h
theorem lawWholeF33 [mxi : MX] (s t : ByteArray) (at_ : Int) (h : AllP [(2 : Int) ≠ (0 : Int), ((↑s.size : Int).tmod (2 : Int) == (1 : Int)) = false, (2 : Int) ≠ (0 : Int), ((↑t.size : Int).tmod (2 : Int) == (1 : Int)) = false, decide ((↑t.size : Int) > (0 : Int)) = true, s.size + 1 ≤ 1048576, SM t, JOK (splitL s t) t, (!(strOfInts (jn (splitL s t) t (splitL s t).length)).toList == s.toList) = false, decide (at_ ≥ (0 : Int)) = true, (2 : Int) ≠ (0 : Int), inR IntKind.i64 ((↑s.size : Int).tdiv (2 : Int)), decide (at_ ≤ (↑s.size : Int).tdiv (2 : Int)) = false, SM s, SM s, SZ s, SZ t, decide (cmpS s t < (0 : Int)) = false, Op.bytesLess s.toList t.toList = false, SZ s, SZ t, (cmpS s t == (0 : Int)) = true, (s.toList == t.toList) = true, SM (trimS s), ((trimS (trimS s)).toList == (trimS s).toList) = true, SM (strOfInts (lowerL s)), ((strOfInts (lowerL (strOfInts (lowerL s)))).toList == (strOfInts (lowerL s)).toList) = true]) : PureTo Tryd.prog 13 [.v (.string s), .v (.string t), .v (.int .i64 at_)] (AV.v (.bool true)) :=
  evFn_pure hm soX8 (fn := Tryd.f13) rfl rfl (ti := false) (hs := [CHint.ops 1 [(3, Hint.b false), (8, Hint.b false)], CHint.ops 3 [(2, Hint.b true), (10, Hint.b false)], CHint.ops 5 [(1, Hint.b true), (7, Hint.b false)], CHint.ops 9 [(3, Hint.b false), (6, Hint.b false), (12, Hint.b true), (15, Hint.b true), (22, Hint.b true), (28, Hint.b true)]]) (c := _) (by kernel_rfl) h
theorem lawWholeF38 [mxi : MX] (s t : ByteArray) (at_ : Int) (h : AllP [(2 : Int) ≠ (0 : Int), ((↑s.size : Int).tmod (2 : Int) == (1 : Int)) = false, (2 : Int) ≠ (0 : Int), ((↑t.size : Int).tmod (2 : Int) == (1 : Int)) = false, decide ((↑t.size : Int) > (0 : Int)) = true, s.size + 1 ≤ 1048576, SM t, JOK (splitL s t) t, (!(strOfInts (jn (splitL s t) t (splitL s t).length)).toList == s.toList) = false, decide (at_ ≥ (0 : Int)) = true, (2 : Int) ≠ (0 : Int), inR IntKind.i64 ((↑s.size : Int).tdiv (2 : Int)), decide (at_ ≤ (↑s.size : Int).tdiv (2 : Int)) = false, SM s, SM s, SZ s, SZ t, decide (cmpS s t < (0 : Int)) = false, Op.bytesLess s.toList t.toList = false, SZ s, SZ t, (cmpS s t == (0 : Int)) = false, (s.toList == t.toList) = false, SM (trimS s), ((trimS (trimS s)).toList == (trimS s).toList) = true, SM (strOfInts (lowerL s)), ((strOfInts (lowerL (strOfInts (lowerL s)))).toList == (strOfInts (lowerL s)).toList) = true]) : PureTo Tryd.prog 13 [.v (.string s), .v (.string t), .v (.int .i64 at_)] (AV.v (.bool true)) :=
  evFn_pure hm soX8 (fn := Tryd.f13) rfl rfl (ti := false) (hs := [CHint.ops 1 [(3, Hint.b false), (8, Hint.b false)], CHint.ops 3 [(2, Hint.b true), (10, Hint.b false)], CHint.ops 5 [(1, Hint.b true), (7, Hint.b false)], CHint.ops 9 [(3, Hint.b false), (6, Hint.b false), (12, Hint.b false), (15, Hint.b false), (22, Hint.b true), (28, Hint.b true)]]) (c := _) (by kernel_rfl) h
theorem lawWholeF41 [mxi : MX] (s t : ByteArray) (at_ : Int) (h : AllP [(2 : Int) ≠ (0 : Int), ((↑s.size : Int).tmod (2 : Int) == (1 : Int)) = false, (2 : Int) ≠ (0 : Int), ((↑t.size : Int).tmod (2 : Int) == (1 : Int)) = false, decide ((↑t.size : Int) > (0 : Int)) = true, s.size + 1 ≤ 1048576, SM t, JOK (splitL s t) t, (!(strOfInts (jn (splitL s t) t (splitL s t).length)).toList == s.toList) = false, decide (at_ ≥ (0 : Int)) = false, SM s, SM s, SZ s, SZ t, decide (cmpS s t < (0 : Int)) = true, Op.bytesLess s.toList t.toList = true, SZ s, SZ t, (cmpS s t == (0 : Int)) = true, (s.toList == t.toList) = true, SM (trimS s), ((trimS (trimS s)).toList == (trimS s).toList) = true, SM (strOfInts (lowerL s)), ((strOfInts (lowerL (strOfInts (lowerL s)))).toList == (strOfInts (lowerL s)).toList) = true]) : PureTo Tryd.prog 13 [.v (.string s), .v (.string t), .v (.int .i64 at_)] (AV.v (.bool true)) :=
  evFn_pure hm soX8 (fn := Tryd.f13) rfl rfl (ti := false) (hs := [CHint.ops 1 [(3, Hint.b false), (8, Hint.b false)], CHint.ops 3 [(2, Hint.b true), (10, Hint.b false)], CHint.ops 5 [(1, Hint.b false)], CHint.ops 9 [(3, Hint.b true), (6, Hint.b true), (12, Hint.b true), (15, Hint.b true), (22, Hint.b true), (28, Hint.b true)]]) (c := _) (by kernel_rfl) h
theorem lawWholeF46 [mxi : MX] (s t : ByteArray) (at_ : Int) (h : AllP [(2 : Int) ≠ (0 : Int), ((↑s.size : Int).tmod (2 : Int) == (1 : Int)) = false, (2 : Int) ≠ (0 : Int), ((↑t.size : Int).tmod (2 : Int) == (1 : Int)) = false, decide ((↑t.size : Int) > (0 : Int)) = true, s.size + 1 ≤ 1048576, SM t, JOK (splitL s t) t, (!(strOfInts (jn (splitL s t) t (splitL s t).length)).toList == s.toList) = false, decide (at_ ≥ (0 : Int)) = false, SM s, SM s, SZ s, SZ t, decide (cmpS s t < (0 : Int)) = true, Op.bytesLess s.toList t.toList = true, SZ s, SZ t, (cmpS s t == (0 : Int)) = false, (s.toList == t.toList) = false, SM (trimS s), ((trimS (trimS s)).toList == (trimS s).toList) = true, SM (strOfInts (lowerL s)), ((strOfInts (lowerL (strOfInts (lowerL s)))).toList == (strOfInts (lowerL s)).toList) = true]) : PureTo Tryd.prog 13 [.v (.string s), .v (.string t), .v (.int .i64 at_)] (AV.v (.bool true)) :=
  evFn_pure hm soX8 (fn := Tryd.f13) rfl rfl (ti := false) (hs := [CHint.ops 1 [(3, Hint.b false), (8, Hint.b false)], CHint.ops 3 [(2, Hint.b true), (10, Hint.b false)], CHint.ops 5 [(1, Hint.b false)], CHint.ops 9 [(3, Hint.b true), (6, Hint.b true), (12, Hint.b false), (15, Hint.b false), (22, Hint.b true), (28, Hint.b true)]]) (c := _) (by kernel_rfl) h
theorem lawWholeF51 [mxi : MX] (s t : ByteArray) (at_ : Int) (h : AllP [(2 : Int) ≠ (0 : Int), ((↑s.size : Int).tmod (2 : Int) == (1 : Int)) = false, (2 : Int) ≠ (0 : Int), ((↑t.size : Int).tmod (2 : Int) == (1 : Int)) = false, decide ((↑t.size : Int) > (0 : Int)) = true, s.size + 1 ≤ 1048576, SM t, JOK (splitL s t) t, (!(strOfInts (jn (splitL s t) t (splitL s t).length)).toList == s.toList) = false, decide (at_ ≥ (0 : Int)) = false, SM s, SM s, SZ s, SZ t, decide (cmpS s t < (0 : Int)) = false, Op.bytesLess s.toList t.toList = false, SZ s, SZ t, (cmpS s t == (0 : Int)) = true, (s.toList == t.toList) = true, SM (trimS s), ((trimS (trimS s)).toList == (trimS s).toList) = true, SM (strOfInts (lowerL s)), ((strOfInts (lowerL (strOfInts (lowerL s)))).toList == (strOfInts (lowerL s)).toList) = true]) : PureTo Tryd.prog 13 [.v (.string s), .v (.string t), .v (.int .i64 at_)] (AV.v (.bool true)) :=
  evFn_pure hm soX8 (fn := Tryd.f13) rfl rfl (ti := false) (hs := [CHint.ops 1 [(3, Hint.b false), (8, Hint.b false)], CHint.ops 3 [(2, Hint.b true), (10, Hint.b false)], CHint.ops 5 [(1, Hint.b false)], CHint.ops 9 [(3, Hint.b false), (6, Hint.b false), (12, Hint.b true), (15, Hint.b true), (22, Hint.b true), (28, Hint.b true)]]) (c := _) (by kernel_rfl) h
theorem lawWholeF56 [mxi : MX] (s t : ByteArray) (at_ : Int) (h : AllP [(2 : Int) ≠ (0 : Int), ((↑s.size : Int).tmod (2 : Int) == (1 : Int)) = false, (2 : Int) ≠ (0 : Int), ((↑t.size : Int).tmod (2 : Int) == (1 : Int)) = false, decide ((↑t.size : Int) > (0 : Int)) = true, s.size + 1 ≤ 1048576, SM t, JOK (splitL s t) t, (!(strOfInts (jn (splitL s t) t (splitL s t).length)).toList == s.toList) = false, decide (at_ ≥ (0 : Int)) = false, SM s, SM s, SZ s, SZ t, decide (cmpS s t < (0 : Int)) = false, Op.bytesLess s.toList t.toList = false, SZ s, SZ t, (cmpS s t == (0 : Int)) = false, (s.toList == t.toList) = false, SM (trimS s), ((trimS (trimS s)).toList == (trimS s).toList) = true, SM (strOfInts (lowerL s)), ((strOfInts (lowerL (strOfInts (lowerL s)))).toList == (strOfInts (lowerL s)).toList) = true]) : PureTo Tryd.prog 13 [.v (.string s), .v (.string t), .v (.int .i64 at_)] (AV.v (.bool true)) :=
  evFn_pure hm soX8 (fn := Tryd.f13) rfl rfl (ti := false) (hs := [CHint.ops 1 [(3, Hint.b false), (8, Hint.b false)], CHint.ops 3 [(2, Hint.b true), (10, Hint.b false)], CHint.ops 5 [(1, Hint.b false)], CHint.ops 9 [(3, Hint.b false), (6, Hint.b false), (12, Hint.b false), (15, Hint.b false), (22, Hint.b true), (28, Hint.b true)]]) (c := _) (by kernel_rfl) h
theorem lawWholeF60 [mxi : MX] (s t : ByteArray) (at_ : Int) (h : AllP [(2 : Int) ≠ (0 : Int), ((↑s.size : Int).tmod (2 : Int) == (1 : Int)) = false, (2 : Int) ≠ (0 : Int), ((↑t.size : Int).tmod (2 : Int) == (1 : Int)) = false, decide ((↑t.size : Int) > (0 : Int)) = false, decide (at_ ≥ (0 : Int)) = true, (2 : Int) ≠ (0 : Int), inR IntKind.i64 ((↑s.size : Int).tdiv (2 : Int)), decide (at_ ≤ (↑s.size : Int).tdiv (2 : Int)) = true, SZ s, SZ s, SZ s, (↑((slice s (0 : Int) at_).size + (slice s at_ (↑(ul s) : Int)).size) : Int) ≤ (9223372036854775807 : Int), (!(slice s (0 : Int) at_ ++ slice s at_ (↑(ul s) : Int)).toList == s.toList) = false, SM s, SM s, SZ s, SZ t, decide (cmpS s t < (0 : Int)) = true, Op.bytesLess s.toList t.toList = true, SZ s, SZ t, (cmpS s t == (0 : Int)) = true, (s.toList == t.toList) = true, SM (trimS s), ((trimS (trimS s)).toList == (trimS s).toList) = true, SM (strOfInts (lowerL s)), ((strOfInts (lowerL (strOfInts (lowerL s)))).toList == (strOfInts (lowerL s)).toList) = true]) : PureTo Tryd.prog 13 [.v (.string s), .v (.string t), .v (.int .i64 at_)] (AV.v (.bool true)) :=
  evFn_pure hm soX8 (fn := Tryd.f13) rfl rfl (ti := false) (hs := [CHint.ops 1 [(3, Hint.b false), (8, Hint.b false)], CHint.ops 3 [(2, Hint.b false)], CHint.ops 5 [(1, Hint.b true), (7, Hint.b true), (20, Hint.b false)], CHint.ops 9 [(3, Hint.b true), (6, Hint.b true), (12, Hint.b true), (15, Hint.b true), (22, Hint.b true), (28, Hint.b true)]]) (c := _) (by kernel_rfl) h
theorem lawWholeF65 [mxi : MX] (s t : ByteArray) (at_ : Int) (h : AllP [(2 : Int) ≠ (0 : Int), ((↑s.size : Int).tmod (2 : Int) == (1 : Int)) = false, (2 : Int) ≠ (0 : Int), ((↑t.size : Int).tmod (2 : Int) == (1 : Int)) = false, decide ((↑t.size : Int) > (0 : Int)) = false, decide (at_ ≥ (0 : Int)) = true, (2 : Int) ≠ (0 : Int), inR IntKind.i64 ((↑s.size : Int).tdiv (2 : Int)), decide (at_ ≤ (↑s.size : Int).tdiv (2 : Int)) = true, SZ s, SZ s, SZ s, (↑((slice s (0 : Int) at_).size + (slice s at_ (↑(ul s) : Int)).size) : Int) ≤ (9223372036854775807 : Int), (!(slice s (0 : Int) at_ ++ slice s at_ (↑(ul s) : Int)).toList == s.toList) = false, SM s, SM s, SZ s, SZ t, decide (cmpS s t < (0 : Int)) = true, Op.bytesLess s.toList t.toList = true, SZ s, SZ t, (cmpS s t == (0 : Int)) = false, (s.toList == t.toList) = false, SM (trimS s), ((trimS (trimS s)).toList == (trimS s).toList) = true, SM (strOfInts (lowerL s)), ((strOfInts (lowerL (strOfInts (lowerL s)))).toList == (strOfInts (lowerL s)).toList) = true]) : PureTo Tryd.prog 13 [.v (.string s), .v (.string t), .v (.int .i64 at_)] (AV.v (.bool true)) :=
  evFn_pure hm soX8 (fn := Tryd.f13) rfl rfl (ti := false) (hs := [CHint.ops 1 [(3, Hint.b false), (8, Hint.b false)], CHint.ops 3 [(2, Hint.b false)], CHint.ops 5 [(1, Hint.b true), (7, Hint.b true), (20, Hint.b false)], CHint.ops 9 [(3, Hint.b true), (6, Hint.b true), (12, Hint.b false), (15, Hint.b false), (22, Hint.b true), (28, Hint.b true)]]) (c := _) (by kernel_rfl) h
theorem lawWholeF70 [mxi : MX] (s t : ByteArray) (at_ : Int) (h : AllP [(2 : Int) ≠ (0 : Int), ((↑s.size : Int).tmod (2 : Int) == (1 : Int)) = false, (2 : Int) ≠ (0 : Int), ((↑t.size : Int).tmod (2 : Int) == (1 : Int)) = false, decide ((↑t.size : Int) > (0 : Int)) = false, decide (at_ ≥ (0 : Int)) = true, (2 : Int) ≠ (0 : Int), inR IntKind.i64 ((↑s.size : Int).tdiv (2 : Int)), decide (at_ ≤ (↑s.size : Int).tdiv (2 : Int)) = true, SZ s, SZ s, SZ s, (↑((slice s (0 : Int) at_).size + (slice s at_ (↑(ul s) : Int)).size) : Int) ≤ (9223372036854775807 : Int), (!(slice s (0 : Int) at_ ++ slice s at_ (↑(ul s) : Int)).toList == s.toList) = false, SM s, SM s, SZ s, SZ t, decide (cmpS s t < (0 : Int)) = false, Op.bytesLess s.toList t.toList = false, SZ s, SZ t, (cmpS s t == (0 : Int)) = true, (s.toList == t.toList) = true, SM (trimS s), ((trimS (trimS s)).toList == (trimS s).toList) = true, SM (strOfInts (lowerL s)), ((strOfInts (lowerL (strOfInts (lowerL s)))).toList == (strOfInts (lowerL s)).toList) = true]) : PureTo Tryd.prog 13 [.v (.string s), .v (.string t), .v (.int .i64 at_)] (AV.v (.bool true)) :=
  evFn_pure hm soX8 (fn := Tryd.f13) rfl rfl (ti := false) (hs := [CHint.ops 1 [(3, Hint.b false), (8, Hint.b false)], CHint.ops 3 [(2, Hint.b false)], CHint.ops 5 [(1, Hint.b true), (7, Hint.b true), (20, Hint.b false)], CHint.ops 9 [(3, Hint.b false), (6, Hint.b false), (12, Hint.b true), (15, Hint.b true), (22, Hint.b true), (28, Hint.b true)]]) (c := _) (by kernel_rfl) h
theorem lawWholeF75 [mxi : MX] (s t : ByteArray) (at_ : Int) (h : AllP [(2 : Int) ≠ (0 : Int), ((↑s.size : Int).tmod (2 : Int) == (1 : Int)) = false, (2 : Int) ≠ (0 : Int), ((↑t.size : Int).tmod (2 : Int) == (1 : Int)) = false, decide ((↑t.size : Int) > (0 : Int)) = false, decide (at_ ≥ (0 : Int)) = true, (2 : Int) ≠ (0 : Int), inR IntKind.i64 ((↑s.size : Int).tdiv (2 : Int)), decide (at_ ≤ (↑s.size : Int).tdiv (2 : Int)) = true, SZ s, SZ s, SZ s, (↑((slice s (0 : Int) at_).size + (slice s at_ (↑(ul s) : Int)).size) : Int) ≤ (9223372036854775807 : Int), (!(slice s (0 : Int) at_ ++ slice s at_ (↑(ul s) : Int)).toList == s.toList) = false, SM s, SM s, SZ s, SZ t, decide (cmpS s t < (0 : Int)) = false, Op.bytesLess s.toList t.toList = false, SZ s, SZ t, (cmpS s t == (0 : Int)) = false, (s.toList == t.toList) = false, SM (trimS s), ((trimS (trimS s)).toList == (trimS s).toList) = true, SM (strOfInts (lowerL s)), ((strOfInts (lowerL (strOfInts (lowerL s)))).toList == (strOfInts (lowerL s)).toList) = true]) : PureTo Tryd.prog 13 [.v (.string s), .v (.string t), .v (.int .i64 at_)] (AV.v (.bool true)) :=
  evFn_pure hm soX8 (fn := Tryd.f13) rfl rfl (ti := false) (hs := [CHint.ops 1 [(3, Hint.b false), (8, Hint.b false)], CHint.ops 3 [(2, Hint.b false)], CHint.ops 5 [(1, Hint.b true), (7, Hint.b true), (20, Hint.b false)], CHint.ops 9 [(3, Hint.b false), (6, Hint.b false), (12, Hint.b false), (15, Hint.b false), (22, Hint.b true), (28, Hint.b true)]]) (c := _) (by kernel_rfl) h
theorem lawWholeF78 [mxi : MX] (s t : ByteArray) (at_ : Int) (h : AllP [(2 : Int) ≠ (0 : Int), ((↑s.size : Int).tmod (2 : Int) == (1 : Int)) = false, (2 : Int) ≠ (0 : Int), ((↑t.size : Int).tmod (2 : Int) == (1 : Int)) = false, decide ((↑t.size : Int) > (0 : Int)) = false, decide (at_ ≥ (0 : Int)) = true, (2 : Int) ≠ (0 : Int), inR IntKind.i64 ((↑s.size : Int).tdiv (2 : Int)), decide (at_ ≤ (↑s.size : Int).tdiv (2 : Int)) = false, SM s, SM s, SZ s, SZ t, decide (cmpS s t < (0 : Int)) = true, Op.bytesLess s.toList t.toList = true, SZ s, SZ t, (cmpS s t == (0 : Int)) = true, (s.toList == t.toList) = true, SM (trimS s), ((trimS (trimS s)).toList == (trimS s).toList) = true, SM (strOfInts (lowerL s)), ((strOfInts (lowerL (strOfInts (lowerL s)))).toList == (strOfInts (lowerL s)).toList) = true]) : PureTo Tryd.prog 13 [.v (.string s), .v (.string t), .v (.int .i64 at_)] (AV.v (.bool true)) :=
  evFn_pure hm soX8 (fn := Tryd.f13) rfl rfl (ti := false) (hs := [CHint.ops 1 [(3, Hint.b false), (8, Hint.b false)], CHint.ops 3 [(2, Hint.b false)], CHint.ops 5 [(1, Hint.b true), (7, Hint.b false)], CHint.ops 9 [(3, Hint.b true), (6, Hint.b true), (12, Hint.b true), (15, Hint.b true), (22, Hint.b true), (28, Hint.b true)]]) (c := _) (by kernel_rfl) h
theorem lawWholeF83 [mxi : MX] (s t : ByteArray) (at_ : Int) (h : AllP [(2 : Int) ≠ (0 : Int), ((↑s.size : Int).tmod (2 : Int) == (1 : Int)) = false, (2 : Int) ≠ (0 : Int), ((↑t.size : Int).tmod (2 : Int) == (1 : Int)) = false, decide ((↑t.size : Int) > (0 : Int)) = false, decide (at_ ≥ (0 : Int)) = true, (2 : Int) ≠ (0 : Int), inR IntKind.i64 ((↑s.size : Int).tdiv (2 : Int)), decide (at_ ≤ (↑s.size : Int).tdiv (2 : Int)) = false, SM s, SM s, SZ s, SZ t, decide (cmpS s t < (0 : Int)) = true, Op.bytesLess s.toList t.toList = true, SZ s, SZ t, (cmpS s t == (0 : Int)) = false, (s.toList == t.toList) = false, SM (trimS s), ((trimS (trimS s)).toList == (trimS s).toList) = true, SM (strOfInts (lowerL s)), ((strOfInts (lowerL (strOfInts (lowerL s)))).toList == (strOfInts (lowerL s)).toList) = true]) : PureTo Tryd.prog 13 [.v (.string s), .v (.string t), .v (.int .i64 at_)] (AV.v (.bool true)) :=
  evFn_pure hm soX8 (fn := Tryd.f13) rfl rfl (ti := false) (hs := [CHint.ops 1 [(3, Hint.b false), (8, Hint.b false)], CHint.ops 3 [(2, Hint.b false)], CHint.ops 5 [(1, Hint.b true), (7, Hint.b false)], CHint.ops 9 [(3, Hint.b true), (6, Hint.b true), (12, Hint.b false), (15, Hint.b false), (22, Hint.b true), (28, Hint.b true)]]) (c := _) (by kernel_rfl) h
theorem lawWholeF88 [mxi : MX] (s t : ByteArray) (at_ : Int) (h : AllP [(2 : Int) ≠ (0 : Int), ((↑s.size : Int).tmod (2 : Int) == (1 : Int)) = false, (2 : Int) ≠ (0 : Int), ((↑t.size : Int).tmod (2 : Int) == (1 : Int)) = false, decide ((↑t.size : Int) > (0 : Int)) = false, decide (at_ ≥ (0 : Int)) = true, (2 : Int) ≠ (0 : Int), inR IntKind.i64 ((↑s.size : Int).tdiv (2 : Int)), decide (at_ ≤ (↑s.size : Int).tdiv (2 : Int)) = false, SM s, SM s, SZ s, SZ t, decide (cmpS s t < (0 : Int)) = false, Op.bytesLess s.toList t.toList = false, SZ s, SZ t, (cmpS s t == (0 : Int)) = true, (s.toList == t.toList) = true, SM (trimS s), ((trimS (trimS s)).toList == (trimS s).toList) = true, SM (strOfInts (lowerL s)), ((strOfInts (lowerL (strOfInts (lowerL s)))).toList == (strOfInts (lowerL s)).toList) = true]) : PureTo Tryd.prog 13 [.v (.string s), .v (.string t), .v (.int .i64 at_)] (AV.v (.bool true)) :=
  evFn_pure hm soX8 (fn := Tryd.f13) rfl rfl (ti := false) (hs := [CHint.ops 1 [(3, Hint.b false), (8, Hint.b false)], CHint.ops 3 [(2, Hint.b false)], CHint.ops 5 [(1, Hint.b true), (7, Hint.b false)], CHint.ops 9 [(3, Hint.b false), (6, Hint.b false), (12, Hint.b true), (15, Hint.b true), (22, Hint.b true), (28, Hint.b true)]]) (c := _) (by kernel_rfl) h
theorem lawWholeF93 [mxi : MX] (s t : ByteArray) (at_ : Int) (h : AllP [(2 : Int) ≠ (0 : Int), ((↑s.size : Int).tmod (2 : Int) == (1 : Int)) = false, (2 : Int) ≠ (0 : Int), ((↑t.size : Int).tmod (2 : Int) == (1 : Int)) = false, decide ((↑t.size : Int) > (0 : Int)) = false, decide (at_ ≥ (0 : Int)) = true, (2 : Int) ≠ (0 : Int), inR IntKind.i64 ((↑s.size : Int).tdiv (2 : Int)), decide (at_ ≤ (↑s.size : Int).tdiv (2 : Int)) = false, SM s, SM s, SZ s, SZ t, decide (cmpS s t < (0 : Int)) = false, Op.bytesLess s.toList t.toList = false, SZ s, SZ t, (cmpS s t == (0 : Int)) = false, (s.toList == t.toList) = false, SM (trimS s), ((trimS (trimS s)).toList == (trimS s).toList) = true, SM (strOfInts (lowerL s)), ((strOfInts (lowerL (strOfInts (lowerL s)))).toList == (strOfInts (lowerL s)).toList) = true]) : PureTo Tryd.prog 13 [.v (.string s), .v (.string t), .v (.int .i64 at_)] (AV.v (.bool true)) :=
  evFn_pure hm soX8 (fn := Tryd.f13) rfl rfl (ti := false) (hs := [CHint.ops 1 [(3, Hint.b false), (8, Hint.b false)], CHint.ops 3 [(2, Hint.b false)], CHint.ops 5 [(1, Hint.b true), (7, Hint.b false)], CHint.ops 9 [(3, Hint.b false), (6, Hint.b false), (12, Hint.b false), (15, Hint.b false), (22, Hint.b true), (28, Hint.b true)]]) (c := _) (by kernel_rfl) h
theorem lawWholeF96 [mxi : MX] (s t : ByteArray) (at_ : Int) (h : AllP [(2 : Int) ≠ (0 : Int), ((↑s.size : Int).tmod (2 : Int) == (1 : Int)) = false, (2 : Int) ≠ (0 : Int), ((↑t.size : Int).tmod (2 : Int) == (1 : Int)) = false, decide ((↑t.size : Int) > (0 : Int)) = false, decide (at_ ≥ (0 : Int)) = false, SM s, SM s, SZ s, SZ t, decide (cmpS s t < (0 : Int)) = true, Op.bytesLess s.toList t.toList = true, SZ s, SZ t, (cmpS s t == (0 : Int)) = true, (s.toList == t.toList) = true, SM (trimS s), ((trimS (trimS s)).toList == (trimS s).toList) = true, SM (strOfInts (lowerL s)), ((strOfInts (lowerL (strOfInts (lowerL s)))).toList == (strOfInts (lowerL s)).toList) = true]) : PureTo Tryd.prog 13 [.v (.string s), .v (.string t), .v (.int .i64 at_)] (AV.v (.bool true)) :=
  evFn_pure hm soX8 (fn := Tryd.f13) rfl rfl (ti := false) (hs := [CHint.ops 1 [(3, Hint.b false), (8, Hint.b false)], CHint.ops 3 [(2, Hint.b false)], CHint.ops 5 [(1, Hint.b false)], CHint.ops 9 [(3, Hint.b true), (6, Hint.b true), (12, Hint.b true), (15, Hint.b true), (22, Hint.b true), (28, Hint.b true)]]) (c := _) (by kernel_rfl) h
theorem lawWholeF101 [mxi : MX] (s t : ByteArray) (at_ : Int) (h : AllP [(2 : Int) ≠ (0 : Int), ((↑s.size : Int).tmod (2 : Int) == (1 : Int)) = false, (2 : Int) ≠ (0 : Int), ((↑t.size : Int).tmod (2 : Int) == (1 : Int)) = false, decide ((↑t.size : Int) > (0 : Int)) = false, decide (at_ ≥ (0 : Int)) = false, SM s, SM s, SZ s, SZ t, decide (cmpS s t < (0 : Int)) = true, Op.bytesLess s.toList t.toList = true, SZ s, SZ t, (cmpS s t == (0 : Int)) = false, (s.toList == t.toList) = false, SM (trimS s), ((trimS (trimS s)).toList == (trimS s).toList) = true, SM (strOfInts (lowerL s)), ((strOfInts (lowerL (strOfInts (lowerL s)))).toList == (strOfInts (lowerL s)).toList) = true]) : PureTo Tryd.prog 13 [.v (.string s), .v (.string t), .v (.int .i64 at_)] (AV.v (.bool true)) :=
  evFn_pure hm soX8 (fn := Tryd.f13) rfl rfl (ti := false) (hs := [CHint.ops 1 [(3, Hint.b false), (8, Hint.b false)], CHint.ops 3 [(2, Hint.b false)], CHint.ops 5 [(1, Hint.b false)], CHint.ops 9 [(3, Hint.b true), (6, Hint.b true), (12, Hint.b false), (15, Hint.b false), (22, Hint.b true), (28, Hint.b true)]]) (c := _) (by kernel_rfl) h
theorem lawWholeF106 [mxi : MX] (s t : ByteArray) (at_ : Int) (h : AllP [(2 : Int) ≠ (0 : Int), ((↑s.size : Int).tmod (2 : Int) == (1 : Int)) = false, (2 : Int) ≠ (0 : Int), ((↑t.size : Int).tmod (2 : Int) == (1 : Int)) = false, decide ((↑t.size : Int) > (0 : Int)) = false, decide (at_ ≥ (0 : Int)) = false, SM s, SM s, SZ s, SZ t, decide (cmpS s t < (0 : Int)) = false, Op.bytesLess s.toList t.toList = false, SZ s, SZ t, (cmpS s t == (0 : Int)) = true, (s.toList == t.toList) = true, SM (trimS s), ((trimS (trimS s)).toList == (trimS s).toList) = true, SM (strOfInts (lowerL s)), ((strOfInts (lowerL (strOfInts (lowerL s)))).toList == (strOfInts (lowerL s)).toList) = true]) : PureTo Tryd.prog 13 [.v (.string s), .v (.string t), .v (.int .i64 at_)] (AV.v (.bool true)) :=
  evFn_pure hm soX8 (fn := Tryd.f13) rfl rfl (ti := false) (hs := [CHint.ops 1 [(3, Hint.b false), (8, Hint.b false)], CHint.ops 3 [(2, Hint.b false)], CHint.ops 5 [(1, Hint.b false)], CHint.ops 9 [(3, Hint.b false), (6, Hint.b false), (12, Hint.b true), (15, Hint.b true), (22, Hint.b true), (28, Hint.b true)]]) (c := _) (by kernel_rfl) h
theorem lawWholeF111 [mxi : MX] (s t : ByteArray) (at_ : Int) (h : AllP [(2 : Int) ≠ (0 : Int), ((↑s.size : Int).tmod (2 : Int) == (1 : Int)) = false, (2 : Int) ≠ (0 : Int), ((↑t.size : Int).tmod (2 : Int) == (1 : Int)) = false, decide ((↑t.size : Int) > (0 : Int)) = false, decide (at_ ≥ (0 : Int)) = false, SM s, SM s, SZ s, SZ t, decide (cmpS s t < (0 : Int)) = false, Op.bytesLess s.toList t.toList = false, SZ s, SZ t, (cmpS s t == (0 : Int)) = false, (s.toList == t.toList) = false, SM (trimS s), ((trimS (trimS s)).toList == (trimS s).toList) = true, SM (strOfInts (lowerL s)), ((strOfInts (lowerL (strOfInts (lowerL s)))).toList == (strOfInts (lowerL s)).toList) = true]) : PureTo Tryd.prog 13 [.v (.string s), .v (.string t), .v (.int .i64 at_)] (AV.v (.bool true)) :=
  evFn_pure hm soX8 (fn := Tryd.f13) rfl rfl (ti := false) (hs := [CHint.ops 1 [(3, Hint.b false), (8, Hint.b false)], CHint.ops 3 [(2, Hint.b false)], CHint.ops 5 [(1, Hint.b false)], CHint.ops 9 [(3, Hint.b false), (6, Hint.b false), (12, Hint.b false), (15, Hint.b false), (22, Hint.b true), (28, Hint.b true)]]) (c := _) (by kernel_rfl) h
end Go.Proofs.Us

/- Texts: MaxLen holds some number, whatever the world. -/
set_option maxRecDepth 100000
namespace Go.Proofs.Us
open Go Go.Ev Go.Proofs.YtnmhaemjffcjaaaDoor

theorem mx_shape {w : World} (h : w.ShapedOpen Tryd.prog) : ∃ m : Int, w.cell? ⟨2, 0, none⟩ = some (.int .i64 m) := by
  have h0 : ((begin Tryd.prog (fun _ _ => 0) default).world.heap[2]?).bind Obj.row? = some (#[.int .i64 0], 3) := by kernel_rfl
  obtain ⟨cs, hh, hs, hr⟩ := h.1 2 #[.int .i64 0] 3 (of_decide_eq_true (by kernel_rfl)) h0
  obtain ⟨ts, hts, _, hall⟩ := hr (by kernel_rfl)
  have hc : Tryd.prog.cellTypes Tryd.prog.depth 3 = some [3] := by kernel_rfl
  rw [hc] at hts
  cases hts
  have hs1 : cs.size = 1 := hs
  have h1 : 0 < cs.size := by omega
  obtain ⟨u, hu', hok⟩ := hall 0 cs[0] (by simp [h1])
  have : u = 3 := by simpa using hu'.symm
  subst this
  have hcell : w.cell? ⟨2, 0, none⟩ = some cs[0] := by simp [World.cell?, hh, h1]
  rw [hcell]
  unfold Cell.ok at hok
  rw [show Tryd.prog.underlying 3 = some (.int .i64) by kernel_rfl] at hok
  cases hv : cs[0] <;> rw [hv] at hok <;> first | exact ⟨_, by rw [hok.1]⟩ | simp at hok

theorem globWX {W : World} {m : Int} (h : laidMetH Tryd.prog laidT W) (hm : W.cell? ⟨2, 0, none⟩ = some (.int .i64 m)) : @GlobW ⟨tabsX m⟩ W := by
  have hg := globW h
  have hs : 2 < W.heap.size := by
    simp only [World.cell?] at hm
    rcases Nat.lt_or_ge 2 W.heap.size with hc | hc
    · exact hc
    · simp [Array.getElem?_eq_none hc] at hm
  intro g sz q hl
  match g, hl with
  | 0, hl => exact hg 0 sz q hl
  | 1, hl => exact hg 1 sz q hl
  | 2, hl =>
    cases (Option.some.inj (show some (1, Seq.fn 1 fun _ => AV.v (.int .i64 m)) = some (sz, q) from hl))
    refine ⟨rfl, hs, fun i hi => ⟨rfl, fun j hj => ?_⟩⟩
    have hi0 : i = 0 := by have : i < 1 := hi; omega
    have hj0 : j = 0 := by have : j < 1 := hj; omega
    subst hi0; subst hj0
    exact ⟨_, rfl, trivial, hm⟩
  | g + 3, hl => cases (show (none : Option (Nat × Ev.Seq AV)) = some (sz, q) from hl)
end Go.Proofs.Us
