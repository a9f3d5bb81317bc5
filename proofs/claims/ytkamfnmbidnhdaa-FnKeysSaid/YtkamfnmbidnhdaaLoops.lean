/- Loops of the printed functions: how many rounds, downward induction, answers that are bools. No program, no condition. -/
import Derived.Test.YtkamfnmbidnhdaaWWords
namespace Go.Proofs.Ytkamfnmbidnhdaa.M
open Go.RowKit Go.Proofs.YtkamfnmbidnhdaaW.PrintWords
theorem ev_down {α : Type} {n : Nat} {L : Nat → Nat → Option α} {R : Nat → α} (h0 : Ev (fun r => L r n) (R n)) (hs : ∀ i, i < n → Ev (fun r => L r (i + 1)) (R (i + 1)) → Ev (fun r => L r i) (R i)) : ∀ d i, i + d = n → Ev (fun r => L r i) (R i)
  | 0, i, h => by obtain rfl : i = n := by omega
                  exact h0
  | d + 1, i, h => hs i (by omega) (ev_down h0 hs d (i + 1) (by omega))
theorem ev_from {α : Type} {n : Nat} {L : Nat → Nat → Option α} {R : Nat → α} (h0 : Ev (fun r => L r n) (R n)) (hs : ∀ i, i < n → Ev (fun r => L r (i + 1)) (R (i + 1)) → Ev (fun r => L r i) (R i)) {i : Nat} (hi : i ≤ n) : Ev (fun r => L r i) (R i) :=
  ev_down h0 hs (n - i) i (by omega)
/-- One round more than what follows. -/
theorem Ev.up {α : Type} {g f : Nat → Option α} {r : α} (k : Ev f r) (h : ∀ k, f k = some r → g (k + 1) = some r) : Ev g r := by
  obtain ⟨K, k⟩ := k
  refine ⟨K + 1, fun n hn => ?_⟩
  obtain ⟨m, rfl⟩ : ∃ m, n = m + 1 := ⟨n - 1, by omega⟩
  exact h m (k m (by omega))
theorem Ev.up0 {α : Type} {g : Nat → Option α} {r : α} (h : ∀ k, g (k + 1) = some r) : Ev g r := Ev.up (f := fun _ => some r) (Ev.now r) (fun k _ => h k)
theorem Ev.map {α : Type} {g f : Nat → Option α} {r : α} (k : Ev f r) (h : ∀ k, f k = some r → g k = some r) : Ev g r := by
  obtain ⟨K, k⟩ := k
  exact ⟨K, fun n hn => h n (k n hn)⟩
theorem Ev.mapx {α β : Type} {g : Nat → Option α} {f : Nat → Option β} {r : α} {b : β} (k : Ev f b) (h : ∀ k, f k = some b → g k = some r) : Ev g r := by
  obtain ⟨K, k⟩ := k
  exact ⟨K, fun n hn => h n (k n hn)⟩
theorem Ev.upx {α β : Type} {g : Nat → Option α} {f : Nat → Option β} {r : α} {b : β} (k : Ev f b) (h : ∀ k, f k = some b → g (k + 1) = some r) : Ev g r := by
  obtain ⟨K, k⟩ := k
  refine ⟨K + 1, fun n hn => ?_⟩
  obtain ⟨m, rfl⟩ : ∃ m, n = m + 1 := ⟨n - 1, by omega⟩
  exact h m (k m (by omega))
theorem Ev.two {α β : Type} {g : Nat → Option α} {f : Nat → Option β} {a : α} {b : β} (h : Ev g a) (k : Ev f b) : ∃ K, ∀ n, K ≤ n → g n = some a ∧ f n = some b := by
  obtain ⟨K, h⟩ := h
  obtain ⟨K', k⟩ := k
  exact ⟨max K K', fun n hn => ⟨h n (by omega), k n (by omega)⟩⟩
theorem Ev.up2 {α β : Type} {g : Nat → Option α} {f : Nat → Option α} {f' : Nat → Option β} {r : α} {b : β} (k' : Ev f' b) (k : Ev f r) (h : ∀ k, f' k = some b → f k = some r → g (k + 1) = some r) : Ev g r := by
  obtain ⟨K, hk⟩ := Ev.two k' k
  refine ⟨K + 1, fun n hn => ?_⟩
  obtain ⟨m, rfl⟩ : ∃ m, n = m + 1 := ⟨n - 1, by omega⟩
  exact h m (hk m (by omega)).1 (hk m (by omega)).2
/-- An answer that is a bool, by what it says. -/
def EvB (g : Nat → Option Bool) (P : Prop) : Prop := ∃ b : Bool, Ev g b ∧ (b = true ↔ P)
theorem EvB.iff {g : Nat → Option Bool} {P Q : Prop} (h : EvB g P) (hq : P ↔ Q) : EvB g Q := by
  obtain ⟨b, h1, h2⟩ := h
  exact ⟨b, h1, h2.trans hq⟩
theorem EvB.yes {g : Nat → Option Bool} {P : Prop} (h : Ev g true) (hp : P) : EvB g P := ⟨true, h, by simp [hp]⟩
theorem EvB.no {g : Nat → Option Bool} {P : Prop} (h : Ev g false) (hp : ¬ P) : EvB g P := ⟨false, h, by simp [hp]⟩
theorem EvB.up {g f : Nat → Option Bool} {P : Prop} (k : EvB f P) (h : ∀ k b, f k = some b → g (k + 1) = some b) : EvB g P := by
  obtain ⟨b, h1, h2⟩ := k
  exact ⟨b, Ev.up h1 (fun k hk => h k b hk), h2⟩
theorem EvB.up2 {g f : Nat → Option Bool} {P : Prop} (k : EvB f P) (h : ∀ k b, f k = some b → g (k + 2) = some b) : EvB g P := (EvB.up (g := fun r => g (r + 1)) k h).imp fun _ hb => ⟨Ev.up hb.1 (fun _ hk => hk), hb.2⟩
theorem EvB.no2 {g : Nat → Option Bool} {P : Prop} (h : ∀ k, g (k + 2) = some false) (hp : ¬ P) : EvB g P := EvB.no (Ev.up (f := fun r => g (r + 1)) (Ev.up0 h) (fun _ hk => hk)) hp
theorem EvB.same {g f : Nat → Option Bool} {P Q : Prop} (h : EvB g P) (k : EvB f Q) (e : P ↔ Q) : ∃ b, Ev g b ∧ Ev f b := by
  obtain ⟨b, h1, h2⟩ := h
  obtain ⟨c, k1, k2⟩ := k
  have : b = c := by rw [Bool.eq_iff_iff]; exact h2.trans (e.trans k2.symm)
  subst this
  exact ⟨b, h1, k1⟩
theorem evb_from {n : Nat} {L : Nat → Nat → Option Bool} {P : Nat → Prop} (h0 : EvB (fun r => L r n) (P n)) (hs : ∀ i, i < n → EvB (fun r => L r (i + 1)) (P (i + 1)) → EvB (fun r => L r i) (P i)) : ∀ d i, i + d = n → EvB (fun r => L r i) (P i)
  | 0, i, h => by obtain rfl : i = n := by omega
                  exact h0
  | d + 1, i, h => hs i (by omega) (evb_from h0 hs d (i + 1) (by omega))
/-- 'out[i] = ..' in a loop over a new row. -/
theorem set_step {α : Type} (x : List α) (z : α) (i : Nat) (h : i < x.length) : (x.take i ++ List.replicate (x.length - i) z).set i x[i] = x.take (i + 1) ++ List.replicate (x.length - (i + 1)) z := by
  apply List.ext_getElem?
  intro j
  have hl : (x.take i).length = i := by simp; omega
  rw [List.getElem?_set]
  simp only [List.length_append, List.length_replicate, hl]
  by_cases e : i = j
  · subst e
    rw [if_pos rfl, if_pos (by omega), List.getElem?_append_left (by simp; omega), List.getElem?_take, if_pos (by omega), List.getElem?_eq_getElem h]
  · rw [if_neg e]
    rcases Nat.lt_or_ge j i with h1 | h1
    · rw [List.getElem?_append_left (by omega), List.getElem?_append_left (by simp; omega), List.getElem?_take, List.getElem?_take, if_pos h1, if_pos (by omega)]
    · rw [List.getElem?_append_right (by omega), List.getElem?_append_right (by simp; omega)]
      simp only [List.getElem?_replicate, hl, List.length_take]
      have : min (i + 1) x.length = i + 1 := by omega
      rw [this]
      by_cases h2 : j < x.length
      · rw [if_pos (by omega), if_pos (by omega)]
      · rw [if_neg (by omega), if_neg (by omega)]
theorem wrap_up {i n : Nat} (h : i < n) (hn : n ≤ 9223372036854775807) : wrap64 ((i : Int) + 1) = ((i + 1 : Nat) : Int) := by unfold wrap64; omega
theorem rd_nat (x : List Int) (i : Nat) (h : i < x.length) : rd x (i : Int) = x[i] := by
  simp [rd, h]
end Go.Proofs.Ytkamfnmbidnhdaa.M
