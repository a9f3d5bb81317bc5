/- The drawing reader: next, pick, whole, text, key, val always answer, and within which bounds. -/
import Derived.Test.YtkamfnmbidnhdaaLoops
import Derived.Test.YtkamfnmbidnhdaaPf79
import Derived.Test.YtkamfnmbidnhdaaPf53
import Derived.Test.YtkamfnmbidnhdaaPf78
import Derived.Test.YtkamfnmbidnhdaaPf77
import Derived.Test.YtkamfnmbidnhdaaPf52
import Derived.Test.YtkamfnmbidnhdaaPf54
set_option linter.unusedVariables false
set_option linter.unusedSimpArgs false
namespace Go.Proofs.Ytkamfnmbidnhdaa.P
open Go.RowKit Go.Proofs.YtkamfnmbidnhdaaW.PrintWords Go.Proofs.Ytkamfnmbidnhdaa.M
def bytes (l : List Int) : Prop := ∀ v, v ∈ l → 0 ≤ v ∧ v ≤ 255
/-- Where the reader stands, far from the end of the numbers. -/
def atOk (n : Nat) (a : Int) : Prop := 0 ≤ a ∧ a + n ≤ 1099511627776
theorem and_255 (n : Int) : 0 ≤ Go.bits .and .u64 n 255 ∧ Go.bits .and .u64 n 255 ≤ 255 := by
  simp only [Go.bits, BitVec.toNat_and, BitVec.toNat_ofInt]
  have h2 : ((255 : Int) % ((2 ^ IntKind.u64.bits : Nat) : Int)).toNat = 255 := by decide
  rw [h2]
  have h := Nat.and_le_right (n := (n % ((2 ^ IntKind.u64.bits : Nat) : Int)).toNat) (m := 255)
  have hw : ∀ x : Int, 0 ≤ x → x ≤ 255 → IntKind.u64.wrap x = x := fun x h0 h1 => by
    rw [IntKind.wrap_u64]; omega
  rw [hw _ (by omega) (by omega)]
  omega
theorem next_says (l : List Int) (hl : bytes l) (a s : Int) (h : atOk 1 a) : ∃ v s', spec_l6Cur_next.f l a s = some (v, a + 1, s') ∧ 0 ≤ v ∧ v ≤ 255 := by
  have hw : ∀ x : Int, 0 ≤ x → x ≤ 1099511627776 → wrap64 x = x := fun x h0 h1 => by unfold wrap64; omega
  obtain ⟨h0, h1⟩ := h
  unfold spec_l6Cur_next.f
  by_cases c : a < (l.length : Int)
  · rw [if_pos c, if_pos h0, hw (a + 1) (by omega) (by omega)]
    have hi : a.toNat < l.length := by omega
    have hv : rd l a = l[a.toNat] := by simp [rd, hi]
    have := hl _ (List.getElem_mem hi)
    rw [hv, hw _ (by omega) (by omega)]
    exact ⟨_, _, rfl, this.1, this.2⟩
  · rw [if_neg c, hw (a + 1) (by omega) (by omega)]
    have := and_255 ((IntKind.u64.wrap ((IntKind.u64.wrap (s * 6364136223846793005)) + 1442695040888963407)) / 1099511627776)
    rw [hw _ this.1 (by omega)]
    exact ⟨_, _, rfl, this.1, this.2⟩
theorem pick_says (l : List Int) (hl : bytes l) (a s n : Int) (hn : 0 < n) (hm : n ≤ 4294967296) (h : atOk 2 a) : ∃ v a' s', spec_l6Cur_pick.f l a s n = some (v, a', s') ∧ 0 ≤ v ∧ v < n ∧ a ≤ a' ∧ a' ≤ a + 2 := by
  have hw : ∀ x : Int, 0 ≤ x → x ≤ 1099511627776 → wrap64 x = x := fun x h0 h1 => by unfold wrap64; omega
  obtain ⟨h0, h1⟩ := h
  unfold spec_l6Cur_pick.f
  by_cases c : n ≤ 1
  · rw [if_pos c]
    exact ⟨_, _, _, rfl, by omega, by omega, by omega, by omega⟩
  · rw [if_neg c]
    obtain ⟨v, s1, e1, v0, v1⟩ := next_says l hl a s ⟨h0, by omega⟩
    rw [e1]
    simp only [Option.bind_some]
    by_cases d : n > 200
    · rw [if_pos d]
      obtain ⟨u, s2, e2, u0, u1⟩ := next_says l hl (a + 1) s1 ⟨by omega, by omega⟩
      rw [e2]
      simp only [Option.bind_some]
      rw [if_neg (by omega), hw (v * 256) (by omega) (by omega), hw _ (by omega) (by omega)]
      have hp : 0 ≤ v * 256 + u := by omega
      exact ⟨_, _, _, rfl, Int.tmod_nonneg _ hp, Int.tmod_lt_of_pos _ hn, by omega, by omega⟩
    · rw [if_neg d, if_neg (by omega)]
      exact ⟨_, _, _, rfl, Int.tmod_nonneg _ v0, Int.tmod_lt_of_pos _ hn, by omega, by omega⟩
theorem whole_says (l : List Int) (hl : bytes l) (a s : Int) (h : atOk 4 a) : ∃ v a' s', spec_l6Cur_whole.f l a s = some (v, a', s') ∧ a ≤ a' ∧ a' ≤ a + 4 := by
  obtain ⟨h0, h1⟩ := h
  unfold spec_l6Cur_whole.f
  obtain ⟨v, b, s1, e1, v0, v1, b0, b1⟩ := pick_says l hl a s 6 (by omega) (by omega) ⟨h0, by omega⟩
  rw [e1]
  simp only [Option.bind_some]
  have go : ∀ n : Int, 0 < n → n ≤ 4294967296 → ∃ u c s2, spec_l6Cur_pick.f l b s1 n = some (u, c, s2) ∧ b ≤ c ∧ c ≤ b + 2 := fun n hn hm => by
    obtain ⟨u, c, s2, e2, _, _, c0, c1⟩ := pick_says l hl b s1 n hn hm ⟨by omega, by omega⟩
    exact ⟨u, c, s2, e2, c0, c1⟩
  by_cases d0 : v = 0
  · rw [if_pos d0]
    obtain ⟨u, c, s2, e2, c0, c1⟩ := go 3 (by omega) (by omega)
    rw [e2]; simp only [Option.bind_some]
    exact ⟨_, _, _, rfl, by omega, by omega⟩
  · rw [if_neg d0]
    by_cases d1 : v = 1
    · rw [if_pos d1]
      obtain ⟨u, c, s2, e2, c0, c1⟩ := go 3 (by omega) (by omega)
      rw [e2]; simp only [Option.bind_some]
      exact ⟨_, _, _, rfl, by omega, by omega⟩
    · rw [if_neg d1]
      by_cases d2 : v = 2
      · rw [if_pos d2]
        obtain ⟨u, c, s2, e2, c0, c1⟩ := go 70000 (by omega) (by omega)
        rw [e2]; simp only [Option.bind_some]
        exact ⟨_, _, _, rfl, by omega, by omega⟩
      · rw [if_neg d2]
        obtain ⟨u, c, s2, e2, c0, c1⟩ := go 12 (by omega) (by omega)
        rw [e2]; simp only [Option.bind_some]
        exact ⟨_, _, _, rfl, by omega, by omega⟩
theorem text_l0 (l : List Int) (hl : bytes l) (a s : Int) (h : atOk 2 a) : ∀ (d : Nat) (x : ByteArray), 500 ≤ x.size + d → 0 < x.size → x.size ≤ 1000 → ∃ (t : ByteArray) (a' s' : Int), Ev (fun r => spec_l6Cur_text.l0 r x l a s) (t, a', s') ∧ t.size ≤ 500 ∧ a ≤ a' ∧ a' ≤ a + 2 := by
  intro d
  induction d with
  | zero =>
    intro x hx h0 hm
    obtain ⟨v, b, s1, e1, v0, v1, b0, b1⟩ := pick_says l hl a s 2 (by omega) (by omega) h
    have hw : wrap64 (500 - v) = 500 - v := by unfold wrap64; omega
    refine ⟨x.extract 0 (500 - v).toNat, b, s1, Ev.up0 fun k => ?_, ?_, b0, b1⟩
    · simp only [spec_l6Cur_text.l0_succ]
      rw [if_neg (by omega), e1]
      simp only [Option.bind_some]
      rw [hw, if_pos (by omega), if_pos (by omega)]
    · rw [ByteArray.size_extract]; omega
  | succ d ih =>
    intro x hx h0 hm
    by_cases c : (x.size : Int) < 500
    · have hs : (x ++ x).size = x.size + x.size := ByteArray.size_append
      obtain ⟨t, b, s1, e, ht, b0, b1⟩ := ih (x ++ x) (by omega) (by omega) (by omega)
      refine ⟨t, b, s1, Ev.up e fun k hk => ?_, ht, b0, b1⟩
      simp only [spec_l6Cur_text.l0_succ]
      rw [if_pos c, if_pos (by omega)]
      exact hk
    · obtain ⟨v, b, s1, e1, v0, v1, b0, b1⟩ := pick_says l hl a s 2 (by omega) (by omega) h
      have hw : wrap64 (500 - v) = 500 - v := by unfold wrap64; omega
      refine ⟨x.extract 0 (500 - v).toNat, b, s1, Ev.up0 fun k => ?_, ?_, b0, b1⟩
      · simp only [spec_l6Cur_text.l0_succ]
        rw [if_neg (by omega), e1]
        simp only [Option.bind_some]
        rw [hw, if_pos (by omega), if_pos (by omega)]
      · rw [ByteArray.size_extract]; omega
theorem str_size (x : List Int) : (strOfNums x).size = x.length := by
  unfold strOfNums
  simp [ByteArray.size]
theorem text_l1 (l : List Int) (hl : bytes l) : ∀ (d : Nat) (x : List Int) (a s n : Int), n ≤ d → 0 ≤ n → x.length + d ≤ 100 → atOk d a → ∃ (t : ByteArray) (a' s' : Int), Ev (fun r => spec_l6Cur_text.l1 r x n l a s) (t, a', s') ∧ t.size ≤ 500 ∧ a ≤ a' ∧ a' ≤ a + d := by
  have stop : ∀ (d : Nat) (x : List Int) (a s : Int), x.length + d ≤ 100 → ∃ (t : ByteArray) (a' s' : Int), Ev (fun r => spec_l6Cur_text.l1 r x 0 l a s) (t, a', s') ∧ t.size ≤ 500 ∧ a ≤ a' ∧ a' ≤ a + d := by
    intro d x a s hx
    refine ⟨strOfNums x, a, s, Ev.up0 fun k => ?_, by rw [str_size]; omega, by omega, by omega⟩
    simp only [spec_l6Cur_text.l1]
    rw [if_neg (by omega)]
  intro d
  induction d with
  | zero =>
    intro x a s n hn h0 hx h
    obtain rfl : n = 0 := by omega
    exact stop 0 x a s hx
  | succ d ih =>
    intro x a s n hn h0 hx h
    obtain ⟨g0, g1⟩ := h
    by_cases c : n > 0
    · obtain ⟨v, s1, e1, v0, v1⟩ := next_says l hl a s ⟨g0, by omega⟩
      have hw : wrap64 (n - 1) = n - 1 := by unfold wrap64; omega
      obtain ⟨t, b, s2, e, ht, b0, b1⟩ := ih (x ++ [v % 256]) (a + 1) s1 (n - 1) (by omega) (by omega) (by simp; omega) ⟨by omega, by omega⟩
      refine ⟨t, b, s2, Ev.up e fun k hk => ?_, ht, by omega, by omega⟩
      simp only [spec_l6Cur_text.l1]
      rw [if_pos c, e1]
      simp only [Option.bind_some]
      rw [if_pos (by omega), hw]
      exact hk
    · obtain rfl : n = 0 := by omega
      exact stop (d + 1) x a s hx
theorem text_says (l : List Int) (hl : bytes l) (a s : Int) (h : atOk 20 a) : ∃ (t : ByteArray) (a' s' : Int), Ev (fun r => spec_l6Cur_text.f r l a s) (t, a', s') ∧ t.size ≤ 500 ∧ a ≤ a' ∧ a' ≤ a + 20 := by
  obtain ⟨h0, h1⟩ := h
  obtain ⟨v, b, s1, e1, v0, v1, b0, b1⟩ := pick_says l hl a s 30 (by omega) (by omega) ⟨h0, by omega⟩
  by_cases c : v = 0
  · obtain ⟨t, a', s', e, ht, t0, t1⟩ := text_l0 l hl b s1 ⟨by omega, by omega⟩ 500 (⟨#[48, 49, 50, 51, 52, 53, 54, 55, 56, 57]⟩ : ByteArray) (by omega) (by decide) (by decide)
    refine ⟨t, a', s', Ev.map e fun k hk => ?_, ht, by omega, by omega⟩
    simp only [spec_l6Cur_text.f, e1, Option.bind_some]
    rw [if_pos c]
    exact hk
  · obtain ⟨u, b2, s2, e2, u0, u1, b20, b21⟩ := pick_says l hl b s1 4 (by omega) (by omega) ⟨by omega, by omega⟩
    by_cases c0 : u = 0
    · refine ⟨⟨#[]⟩, b2, s2, ⟨0, fun k _ => ?_⟩, by decide, by omega, by omega⟩
      simp only [spec_l6Cur_text.f, e1, e2, Option.bind_some]
      rw [if_neg c, if_pos c0]
    · by_cases c1 : u = 1
      · obtain ⟨n, b3, s3, e3, n0, n1, b30, b31⟩ := pick_says l hl b2 s2 4 (by omega) (by omega) ⟨by omega, by omega⟩
        obtain ⟨t, a', s', e, ht, t0, t1⟩ := text_l1 l hl 4 [] b3 s3 n (by omega) n0 (by simp) ⟨by omega, by omega⟩
        refine ⟨t, a', s', Ev.map e fun k hk => ?_, ht, by omega, by omega⟩
        simp only [spec_l6Cur_text.f, e1, e2, e3, Option.bind_some]
        rw [if_neg c, if_neg c0, if_pos c1]
        exact hk
      · obtain ⟨n, b3, s3, e3, n0, n1, b30, b31⟩ := pick_says l hl b2 s2 3 (by omega) (by omega) ⟨by omega, by omega⟩
        refine ⟨strOfNums [(wrap64 (97 + n)) % 256], b3, s3, ⟨0, fun k _ => ?_⟩, by rw [str_size]; simp, by omega, by omega⟩
        simp only [spec_l6Cur_text.f, e1, e2, e3, Option.bind_some]
        rw [if_neg c, if_neg c0, if_neg c1]
/-- A value that was drawn: its text is short. -/
theorem key_says (l : List Int) (hl : bytes l) (a s : Int) (h : atOk 30 a) : ∃ (k n : Int) (t : ByteArray) (a' s' : Int), Ev (fun r => spec_l6Cur_key.f r l a s) (k, n, t, 0, a', s') ∧ (1 ≤ k ∧ k ≤ 3) ∧ t.size ≤ 500 ∧ a ≤ a' ∧ a' ≤ a + 30 := by
  obtain ⟨h0, h1⟩ := h
  obtain ⟨v, b, s1, e1, v0, v1, b0, b1⟩ := pick_says l hl a s 4 (by omega) (by omega) ⟨h0, by omega⟩
  by_cases c0 : v = 0
  · obtain ⟨u, b2, s2, e2, u0, u1, b20, b21⟩ := pick_says l hl b s1 2 (by omega) (by omega) ⟨by omega, by omega⟩
    refine ⟨1, u, ⟨#[]⟩, b2, s2, ⟨0, fun k _ => ?_⟩, by omega, by decide, by omega, by omega⟩
    simp only [spec_l6Cur_key.f, e1, e2, Option.bind_some]
    rw [if_pos c0]
  · by_cases c1 : v = 1
    · obtain ⟨t, b2, s2, e2, ht, b20, b21⟩ := text_says l hl b s1 ⟨by omega, by omega⟩
      refine ⟨3, 0, t, b2, s2, Ev.mapx e2 fun k hk => ?_, by omega, ht, by omega, by omega⟩
      simp only [spec_l6Cur_key.f, e1, hk, Option.bind_some]
      rw [if_neg c0, if_pos c1]
    · by_cases c2 : v = 2
      · obtain ⟨u, b2, s2, e2, u0, u1, b20, b21⟩ := pick_says l hl b s1 6 (by omega) (by omega) ⟨by omega, by omega⟩
        by_cases d : u = 0
        · obtain ⟨x, b3, s3, e3, b30, b31⟩ := whole_says l hl b2 s2 ⟨by omega, by omega⟩
          refine ⟨2, x, ⟨#[]⟩, b3, s3, ⟨0, fun k _ => ?_⟩, by omega, by decide, by omega, by omega⟩
          simp only [spec_l6Cur_key.f, e1, e2, e3, Option.bind_some]
          rw [if_neg c0, if_neg c1, if_pos c2, if_pos d]
        · obtain ⟨x, b3, s3, e3, _, _, b30, b31⟩ := pick_says l hl b2 s2 4 (by omega) (by omega) ⟨by omega, by omega⟩
          refine ⟨2, x, ⟨#[]⟩, b3, s3, ⟨0, fun k _ => ?_⟩, by omega, by decide, by omega, by omega⟩
          simp only [spec_l6Cur_key.f, e1, e2, e3, Option.bind_some]
          rw [if_neg c0, if_neg c1, if_pos c2, if_neg d]
      · obtain ⟨x, b3, s3, e3, _, _, b30, b31⟩ := pick_says l hl b s1 4 (by omega) (by omega) ⟨by omega, by omega⟩
        refine ⟨2, x, ⟨#[]⟩, b3, s3, ⟨0, fun k _ => ?_⟩, by omega, by decide, by omega, by omega⟩
        simp only [spec_l6Cur_key.f, e1, e3, Option.bind_some]
        rw [if_neg c0, if_neg c1, if_neg c2]
theorem val_says (l : List Int) (hl : bytes l) (a s n : Int) (hn : 0 < n) (hm : n ≤ 4294967296) (h : atOk 40 a) : ∃ (k x : Int) (t : ByteArray) (y a' s' : Int), Ev (fun r => spec_l6Cur_val.f r l a s n) (k, x, t, y, a', s') ∧ (1 ≤ k ∧ k ≤ 4) ∧ t.size ≤ 500 ∧ a ≤ a' ∧ a' ≤ a + 40 := by
  obtain ⟨h0, h1⟩ := h
  obtain ⟨v, b, s1, e1, v0, v1, b0, b1⟩ := pick_says l hl a s 3 (by omega) (by omega) ⟨h0, by omega⟩
  by_cases c : v = 0
  · obtain ⟨k, x, t, a', s', e, hk, ht, t0, t1⟩ := key_says l hl b s1 ⟨by omega, by omega⟩
    refine ⟨k, x, t, 0, a', s', Ev.upx e fun r hr => ?_, by omega, ht, by omega, by omega⟩
    simp only [spec_l6Cur_val.f, e1, Option.bind_some]
    rw [if_neg (by omega), c]
    simp only [spec_l6Cur_val.j0, hr, Option.bind_some, beq_self_eq_true, if_true]
  · obtain ⟨y, b2, s2, e2, _, _, b20, b21⟩ := pick_says l hl b s1 n hn hm ⟨by omega, by omega⟩
    refine ⟨4, 0, ⟨#[]⟩, y, b2, s2, Ev.up0 fun r => ?_, by omega, by decide, by omega, by omega⟩
    simp only [spec_l6Cur_val.f, e1, Option.bind_some]
    rw [if_neg (by omega)]
    have : (v == 0) = false := by simp [c]
    simp only [spec_l6Cur_val.j0, this, e2, Option.bind_some, Bool.false_eq_true, if_false]
end Go.Proofs.Ytkamfnmbidnhdaa.P
