/- The tables that a walk adds. -/
import Derived.Test.YtkamfnmbidnhdaaSy1N
namespace Go.Sy
set_option linter.unusedVariables false
theorem goes_closed {ts : List (List Pr)} (hA : AllIn ts) (f : Nat) : ∀ (l : List Pr) (o : List Nat), (∀ p ∈ l, In ts.length p.val) → Nm ts.length o → ts.length - o.length < f → New ts o (goes ts f o l) ∧ ∀ p ∈ l, p.val.k = 4 → p.val.a.toNat ∈ goes ts f o l
  | [], o, _, _, _ => ⟨New.refl _ _, fun p hp => by cases hp⟩
  | p :: r, o, hl, hN, hf => by
    have h1 := go_closed hA f o p.val hN (hl p (.head _)) hf
    have hlen := (go_pre ts f o p.val).length_le
    have h2 := goes_closed hA f r (go ts f o p.val) (fun q hq => hl q (.tail _ hq)) (go_nm hA f o p.val hN (hl p (.head _))) (by omega)
    refine ⟨h1.trans h2.1 (goes_pre ts f r _), fun q hq h4 => ?_⟩
    rcases List.mem_cons.1 hq with rfl | hq
    · obtain ⟨f', rfl⟩ : ∃ f', f = f' + 1 := ⟨f - 1, by omega⟩
      exact (goes_pre ts _ r _).subset (go_mem ts f' o q.val h4)
    · exact h2.2 q hq h4
def cNew (ts : List (List Pr)) (ord O : List Nat) : List (List Pr) := (O.drop ord.length).map fun a => (ts.getD a []).map (nPr O)
theorem cNew_refl (ts : List (List Pr)) (O : List Nat) : cNew ts O O = [] := by simp [cNew]
theorem cNew_len (ts : List (List Pr)) (ord O : List Nat) : (cNew ts ord O).length = O.length - ord.length := by simp [cNew]
theorem cNew_nil (ts : List (List Pr)) (O : List Nat) : cNew ts [] O = cTs ts O := by simp [cNew, cTs]
theorem mem_drop_new {a : Nat} {ord b : List Nat} (hn : b.Nodup) (hp : ord <+: b) (ha : a ∈ b.drop ord.length) : a ∉ ord := by
  obtain ⟨e, rfl⟩ := hp
  rw [List.drop_left' rfl] at ha
  exact fun h => (List.nodup_append.1 hn).2.2 a h a ha rfl
theorem nPr_pre {b c : List Nat} (hp : b <+: c) {t : List Pr} (h : ∀ p ∈ t, p.val.k = 4 → p.val.a.toNat ∈ b) : t.map (nPr c) = t.map (nPr b) :=
  List.map_congr_left fun p hpt => by unfold nPr; rw [ren_pre hp (h p hpt)]
theorem cNew_trans {ts : List (List Pr)} {ord b c : List Nat} (h1 : ord <+: b) (h2 : b <+: c) (hN : Nm ts.length b) (hcl : New ts ord b) : cNew ts ord c = cNew ts ord b ++ cNew ts b c := by
  have hl := h1.length_le
  obtain ⟨e, he⟩ := h2
  have hd : c.drop ord.length = b.drop ord.length ++ c.drop b.length := by
    rw [← he, List.drop_append_of_le_length hl, List.drop_left' rfl]
  unfold cNew
  rw [hd, List.map_append]
  congr 1
  refine List.map_congr_left fun a ha => ?_
  have hab : a ∈ b := List.mem_of_mem_drop ha
  have hlt := hN.lt a hab
  rw [List.getD_eq_getElem?_getD, List.getElem?_eq_getElem hlt]
  exact nPr_pre ⟨e, he⟩ (fun p hp h4 => hcl a hab (mem_drop_new hN.nodup h1 ha) _ (List.getElem?_eq_getElem hlt) p hp h4)
theorem cNew_new {ts : List (List Pr)} {ord O : List Nat} {a : Nat} {t : List Pr} (h : ord ++ [a] <+: O) (ht : ts[a]? = some t) : cNew ts ord O = t.map (nPr O) :: cNew ts (ord ++ [a]) O := by
  obtain ⟨e, rfl⟩ := h
  unfold cNew
  have h1 : (ord ++ [a] ++ e).drop ord.length = a :: e := by rw [List.append_assoc, List.drop_left' rfl]; rfl
  have h2 : (ord ++ [a] ++ e).drop (ord ++ [a]).length = e := List.drop_left' rfl
  rw [h1, h2, List.map_cons, List.getD_eq_getElem?_getD, ht]
  rfl
theorem goes_nPr {ts : List (List Pr)} (hA : AllIn ts) {f : Nat} {t : List Pr} {j : Nat} {p : Pr} {o : List Nat} (hp : t[j]? = some p) : goes ts f o (t.take (j + 1)) = go ts f (goes ts f o (t.take j)) p.val := by
  have : t.take (j + 1) = t.take j ++ [p] := by rw [List.take_add_one, hp]; rfl
  rw [this, goes_snoc]
end Go.Sy
