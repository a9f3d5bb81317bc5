/- slices.SortFunc at pairs and at values by the shelf's own theorem: written by the kit's lay-plain. No condition. -/
import Derived.Shelf.SlSortCmp.NoneTotal
import Derived.Test.YtkamfnmbidnhdaaDoorProg
import Derived.Test.YtkamfnmbidnhdaaDoorSqAH
import Derived.Test.YtkamfnmbidnhdaaDoorSqAI
import Derived.Test.YtkamfnmbidnhdaaDoorSqAE
import Derived.Test.YtkamfnmbidnhdaaDoorSqAF
import Derived.Test.YtkamfnmbidnhdaaDoorSqAG
set_option linter.unusedVariables false
set_option linter.unusedSimpArgs false
set_option linter.unusedSectionVars false
namespace Go.Proofs
open Go.Shelf
def Tryd.sortPr_ren : Go.Shelf.Ren := ⟨fun | 6 => 117 | 15 => 121 | 14 => 145 | 28 => 154 | 29 => 155 | 20 => 170 | 21 => 171 | 22 => 172 | 23 => 173 | 24 => 174 | 25 => 175 | 26 => 176 | 27 => 177 | 46 => 188 | 47 => 179 | 48 => 180 | 49 => 189 | 50 => 190 | 57 => 194 | n => n, fun | 22 => 57 | 24 => 61 | 25 => 158 | 3 => 3 | 39 => 162 | 0 => 0 | 53 => 190 | 55 => 120 | 4 => 4 | 46 => 184 | 45 => 183 | 50 => 144 | 5 => 5 | 9 => 9 | 66 => 210 | 70 => 214 | 76 => 222 | 77 => 223 | n => n, fun | n => n⟩
theorem Tryd.sortPr : Go.Proofs.SlLaysF0.n6 Tryd.prog Tryd.sortPr_ren := {
  mixed := by kernel_rfl
  f6 := ⟨Tryd.f117.name, by decide, Tryd.func117.trans (congrArg some (by kernel_rfl))⟩
  f14 := ⟨Tryd.f145.name, by decide, Tryd.func145.trans (congrArg some (by kernel_rfl))⟩
  f15 := Tryd.func121.trans (congrArg some (by kernel_rfl))
  f20 := ⟨Tryd.f170.name, by decide, Tryd.func170.trans (congrArg some (by kernel_rfl))⟩
  f21 := ⟨Tryd.f171.name, by decide, Tryd.func171.trans (congrArg some (by kernel_rfl))⟩
  f22 := ⟨Tryd.f172.name, by decide, Tryd.func172.trans (congrArg some (by kernel_rfl))⟩
  f23 := ⟨Tryd.f173.name, by decide, Tryd.func173.trans (congrArg some (by kernel_rfl))⟩
  f24 := ⟨Tryd.f174.name, by decide, Tryd.func174.trans (congrArg some (by kernel_rfl))⟩
  f25 := ⟨Tryd.f175.name, by decide, Tryd.func175.trans (congrArg some (by kernel_rfl))⟩
  f26 := ⟨Tryd.f176.name, by decide, Tryd.func176.trans (congrArg some (by kernel_rfl))⟩
  f27 := ⟨Tryd.f177.name, by decide, Tryd.func177.trans (congrArg some (by kernel_rfl))⟩
  f28 := Tryd.func154.trans (congrArg some (by kernel_rfl))
  f29 := Tryd.func155.trans (congrArg some (by kernel_rfl))
  f46 := ⟨Tryd.f188.name, by decide, Tryd.func188.trans (congrArg some (by kernel_rfl))⟩
  f47 := Tryd.func179.trans (congrArg some (by kernel_rfl))
  f48 := Tryd.func180.trans (congrArg some (by kernel_rfl))
  f49 := ⟨Tryd.f189.name, by decide, Tryd.func189.trans (congrArg some (by kernel_rfl))⟩
  f50 := ⟨Tryd.f190.name, by decide, Tryd.func190.trans (congrArg some (by kernel_rfl))⟩
  f57 := ⟨Tryd.f194.name, by decide, Tryd.func194.trans (congrArg some (by kernel_rfl))⟩
  t0 := Tryd.underlying0
  a0 := Tryd.isAgg0
  z0 := Tryd.sizeOf0
  v0 := Tryd.zeroValue0
  t3 := Tryd.underlying3
  a3 := Tryd.isAgg3
  z3 := Tryd.sizeOf3
  v3 := Tryd.zeroValue3
  t4 := Tryd.underlying4
  a4 := Tryd.isAgg4
  z4 := Tryd.sizeOf4
  v4 := Tryd.zeroValue4
  t5 := Tryd.underlying5
  a5 := Tryd.isAgg5
  z5 := Tryd.sizeOf5
  v5 := Tryd.zeroValue5
  t9 := Tryd.underlying9
  a9 := Tryd.isAgg9
  z9 := Tryd.sizeOf9
  v9 := Tryd.zeroValue9
  t22 := Tryd.underlying57
  a22 := Tryd.isAgg57
  z22 := Tryd.sizeOf57
  v22 := Tryd.zeroValue57
  t25 := Tryd.underlying158
  a25 := Tryd.isAgg158
  z25 := Tryd.sizeOf158
  v25 := Tryd.zeroValue158
  t39 := Tryd.underlying162
  a39 := Tryd.isAgg162
  z39 := Tryd.sizeOf162
  v39 := Tryd.zeroValue162
  t45 := Tryd.underlying183
  a45 := Tryd.isAgg183
  z45 := Tryd.sizeOf183
  v45 := Tryd.zeroValue183
  t46 := Tryd.underlying184
  a46 := Tryd.isAgg184
  z46 := Tryd.sizeOf184
  v46 := Tryd.zeroValue184
  t50 := Tryd.underlying144
  a50 := Tryd.isAgg144
  z50 := Tryd.sizeOf144
  v50 := Tryd.zeroValue144
  t53 := Tryd.underlying190
  a53 := Tryd.isAgg190
  z53 := Tryd.sizeOf190
  v53 := Tryd.zeroValue190
  t55 := Tryd.underlying120
  a55 := Tryd.isAgg120
  z55 := Tryd.sizeOf120
  v55 := Tryd.zeroValue120
  t66 := Tryd.underlying210
  a66 := Tryd.isAgg210
  z66 := Tryd.sizeOf210
  v66 := Tryd.zeroValue210
  t70 := Tryd.underlying214
  a70 := Tryd.isAgg214
  z70 := Tryd.sizeOf214
  v70 := Tryd.zeroValue214
  t76 := Tryd.underlying222
  a76 := Tryd.isAgg222
  z76 := Tryd.sizeOf222
  v76 := Tryd.zeroValue222
  t77 := Tryd.underlying223
  a77 := Tryd.isAgg223
  z77 := Tryd.sizeOf223
  v77 := Tryd.zeroValue223 }
def Tryd.sortV_ren : Go.Shelf.Ren := ⟨fun | 6 => 80 | 15 => 121 | 14 => 120 | 28 => 154 | 29 => 155 | 20 => 146 | 21 => 147 | 22 => 148 | 23 => 149 | 24 => 150 | 25 => 151 | 26 => 152 | 27 => 153 | 46 => 178 | 47 => 179 | 48 => 180 | 49 => 181 | 50 => 182 | 57 => 191 | n => n, fun | 22 => 62 | 24 => 48 | 25 => 113 | 3 => 3 | 39 => 162 | 0 => 0 | 53 => 190 | 55 => 120 | 4 => 4 | 46 => 184 | 45 => 183 | 50 => 144 | 5 => 5 | 9 => 9 | 66 => 210 | 70 => 214 | 76 => 222 | 77 => 223 | n => n, fun | n => n⟩
theorem Tryd.sortV : Go.Proofs.SlLaysF0.n6 Tryd.prog Tryd.sortV_ren := {
  mixed := by kernel_rfl
  f6 := ⟨Tryd.f80.name, by decide, Tryd.func80.trans (congrArg some (by kernel_rfl))⟩
  f14 := ⟨Tryd.f120.name, by decide, Tryd.func120.trans (congrArg some (by kernel_rfl))⟩
  f15 := Tryd.func121.trans (congrArg some (by kernel_rfl))
  f20 := ⟨Tryd.f146.name, by decide, Tryd.func146.trans (congrArg some (by kernel_rfl))⟩
  f21 := ⟨Tryd.f147.name, by decide, Tryd.func147.trans (congrArg some (by kernel_rfl))⟩
  f22 := ⟨Tryd.f148.name, by decide, Tryd.func148.trans (congrArg some (by kernel_rfl))⟩
  f23 := ⟨Tryd.f149.name, by decide, Tryd.func149.trans (congrArg some (by kernel_rfl))⟩
  f24 := ⟨Tryd.f150.name, by decide, Tryd.func150.trans (congrArg some (by kernel_rfl))⟩
  f25 := ⟨Tryd.f151.name, by decide, Tryd.func151.trans (congrArg some (by kernel_rfl))⟩
  f26 := ⟨Tryd.f152.name, by decide, Tryd.func152.trans (congrArg some (by kernel_rfl))⟩
  f27 := ⟨Tryd.f153.name, by decide, Tryd.func153.trans (congrArg some (by kernel_rfl))⟩
  f28 := Tryd.func154.trans (congrArg some (by kernel_rfl))
  f29 := Tryd.func155.trans (congrArg some (by kernel_rfl))
  f46 := ⟨Tryd.f178.name, by decide, Tryd.func178.trans (congrArg some (by kernel_rfl))⟩
  f47 := Tryd.func179.trans (congrArg some (by kernel_rfl))
  f48 := Tryd.func180.trans (congrArg some (by kernel_rfl))
  f49 := ⟨Tryd.f181.name, by decide, Tryd.func181.trans (congrArg some (by kernel_rfl))⟩
  f50 := ⟨Tryd.f182.name, by decide, Tryd.func182.trans (congrArg some (by kernel_rfl))⟩
  f57 := ⟨Tryd.f191.name, by decide, Tryd.func191.trans (congrArg some (by kernel_rfl))⟩
  t0 := Tryd.underlying0
  a0 := Tryd.isAgg0
  z0 := Tryd.sizeOf0
  v0 := Tryd.zeroValue0
  t3 := Tryd.underlying3
  a3 := Tryd.isAgg3
  z3 := Tryd.sizeOf3
  v3 := Tryd.zeroValue3
  t4 := Tryd.underlying4
  a4 := Tryd.isAgg4
  z4 := Tryd.sizeOf4
  v4 := Tryd.zeroValue4
  t5 := Tryd.underlying5
  a5 := Tryd.isAgg5
  z5 := Tryd.sizeOf5
  v5 := Tryd.zeroValue5
  t9 := Tryd.underlying9
  a9 := Tryd.isAgg9
  z9 := Tryd.sizeOf9
  v9 := Tryd.zeroValue9
  t22 := Tryd.underlying62
  a22 := Tryd.isAgg62
  z22 := Tryd.sizeOf62
  v22 := Tryd.zeroValue62
  t25 := Tryd.underlying113
  a25 := Tryd.isAgg113
  z25 := Tryd.sizeOf113
  v25 := Tryd.zeroValue113
  t39 := Tryd.underlying162
  a39 := Tryd.isAgg162
  z39 := Tryd.sizeOf162
  v39 := Tryd.zeroValue162
  t45 := Tryd.underlying183
  a45 := Tryd.isAgg183
  z45 := Tryd.sizeOf183
  v45 := Tryd.zeroValue183
  t46 := Tryd.underlying184
  a46 := Tryd.isAgg184
  z46 := Tryd.sizeOf184
  v46 := Tryd.zeroValue184
  t50 := Tryd.underlying144
  a50 := Tryd.isAgg144
  z50 := Tryd.sizeOf144
  v50 := Tryd.zeroValue144
  t53 := Tryd.underlying190
  a53 := Tryd.isAgg190
  z53 := Tryd.sizeOf190
  v53 := Tryd.zeroValue190
  t55 := Tryd.underlying120
  a55 := Tryd.isAgg120
  z55 := Tryd.sizeOf120
  v55 := Tryd.zeroValue120
  t66 := Tryd.underlying210
  a66 := Tryd.isAgg210
  z66 := Tryd.sizeOf210
  v66 := Tryd.zeroValue210
  t70 := Tryd.underlying214
  a70 := Tryd.isAgg214
  z70 := Tryd.sizeOf214
  v70 := Tryd.zeroValue214
  t76 := Tryd.underlying222
  a76 := Tryd.isAgg222
  z76 := Tryd.sizeOf222
  v76 := Tryd.zeroValue222
  t77 := Tryd.underlying223
  a77 := Tryd.isAgg223
  z77 := Tryd.sizeOf223
  v77 := Tryd.zeroValue223 }
end Go.Proofs
/- slices.SortFunc at elements of k cells, for the walk by a symbolic frame: the row is put in order in place, all else stays. -/
namespace Go.Sy
open Go.Sort Go.Proofs Go.Shelf
set_option linter.unusedVariables false
set_option linter.unusedSectionVars false
variable {α : Type} [Inhabited α]
theorem flatK_get {enc : α → List Value} {k : Nat} (hk : ∀ x, (enc x).length = k) (xs : List α) (j : Nat) : (flatK enc k xs.toArray)[j]? = (xs.flatMap enc)[j]? := by
  have hl := flat_length hk xs
  by_cases hj : j < xs.length * k
  · have k0 : 0 < k := by rcases Nat.eq_zero_or_pos k with h | h; · subst h; simp at hj
                          · exact h
    have hi : j / k < xs.length := Nat.div_lt_of_lt_mul (by rwa [Nat.mul_comm] at hj)
    have hr : j % k < k := Nat.mod_lt _ k0
    have hz : j < (flatK enc k xs.toArray).size := by rw [size_flatK]; simpa using hj
    have h1 := get_flatK enc k xs.toArray j (by simpa using hj)
    have h2 := flat_get hk xs (j / k) xs[j / k] (List.getElem?_eq_getElem hi) (j % k) ((enc xs[j / k])[j % k]'(by rw [hk]; exact hr)) (List.getElem?_eq_getElem (by rw [hk]; exact hr))
    rw [Nat.mul_comm, Nat.div_add_mod] at h2
    rw [h2, Array.getElem?_eq_getElem hz]
    rw [getElem!_pos _ j hz] at h1
    rw [h1, getElem!_pos xs.toArray (j / k) (by simpa using hi), getElem!_pos _ (j % k) (by rw [hk]; exact hr)]
    simp
  · rw [Array.getElem?_eq_none (by simp; omega), List.getElem?_eq_none (by omega)]
theorem putCells_size (off : Nat) (F arr : Array Value) : (putCells id off F arr).size = arr.size := by simp [putCells]
theorem putCells_in (off : Nat) (F arr : Array Value) (j : Nat) (v : Value) (hv : F[j]? = some v) (ha : off + F.size ≤ arr.size) : (putCells id off F arr)[off + j]? = some v := by
  have hj := (Array.getElem?_eq_some_iff.1 hv).1
  have hx : off + j < arr.size := by omega
  simp only [putCells, Array.getElem?_mapIdx, Array.getElem?_eq_getElem hx, Option.map_some]
  rw [if_pos ⟨by omega, by omega⟩]
  have : off + j - off = j := by omega
  rw [this, getElem!_pos F j hj]
  obtain ⟨_, h⟩ := Array.getElem?_eq_some_iff.1 hv
  simp [h]
variable {P : Program} {ρ : Ren}
/-- slices.SortFunc. -/
theorem sort_tri (L : SlLaysF0.n6 P ρ) (k : Nat) (aE : ∀ w, (isAgg (ρ.t 24)).run P w = .ok true w) (zE : ∀ w, (Go.sizeOf (ρ.t 24)).run P w = .ok k w) (enc : α → List Value) (hk : ∀ x, (enc x).length = k) (h1 : ∀ x, ∀ v ∈ enc x, v.oneCell' = true)
    (cf : α → α → Int) (hO : SWO (ltOf cf)) (g : Nat) (cb : Array Value) (eg : ∀ args w, (callFunc g args).run P w = .ok (.enter g args) w)
    (hcmp : ∀ (W : World) (x y : α), Calls P g (#[.agg (enc x).toArray, .agg (enc y).toArray] ++ cb) W fun e w' => e = .returned (.int .i64 (cf x y)) ∧ ∃ q os, w' = grow (W.drewN q) os)
    {h : Hp} {A : Option Addr} {n c : Nat} {e : TypeId} (xs : List α) (hA : Own h A n c e k (xs.flatMap enc)) (hn : n = xs.length) (hsz : n < 4611686018427387904) :
    Tri P (ρ.f 6) #[.slice A n c, .func (.func g) #[] cb] h fun v h' => v = .tuple #[] ∧ ∃ ys : List α, ys.Perm xs ∧ ys.Pairwise (fun x y => ltOf cf y x = false) ∧ Own h' A n c e k (ys.flatMap enc) ∧ ∀ b, blk A ≠ some b → h' b = h b := by
  intro K N w d
  subst hn
  by_cases h0 : xs.length = 0
  · have : xs = [] := List.length_eq_zero_iff.1 h0
    subst this
    refine (AnyF.slices_SortFunc_none L A c (.func (.func g) #[] cb) w).mono ?_
    rintro e w' ⟨rfl, rfl⟩
    exact ⟨_, h, rfl, ⟨rfl, [], List.Perm.refl _, List.Pairwise.nil, hA, fun _ _ => rfl⟩, d⟩
  · cases A with
    | none => have := hA.nil rfl; have := hA.cap; omega
    | some a =>
      obtain ⟨hsp, arr, harr, hsize, hget⟩ := hA.row a rfl
      obtain ⟨b, off, sp⟩ := a
      simp only at hsp harr hsize hget
      subst hsp
      have hw := d.ext b _ harr
      have hblk : b < w.heap.size := (Array.getElem?_eq_some_iff.1 hw).1
      have hcap : xs.length * k ≤ c * k := Nat.mul_le_mul_right k hA.cap
      have hH : HoldsK enc k w b off xs.toArray := fun j hj => by
        have hj' : j < xs.length * k := by simpa using hj
        have hlt : j < (xs.flatMap enc).length := by rw [flat_length hk]; exact hj'
        have e1 := hget j _ (List.getElem?_eq_getElem hlt)
        refine ⟨?_, not_frozen hw⟩
        rw [cell_of hw, e1]
        have e2 := flatK_get hk xs j
        rw [List.getElem?_eq_getElem hlt, Array.getElem?_eq_getElem hj] at e2
        rw [getElem!_pos _ j hj]
        exact e2.symm
      have key := AnyQ.slices_SortFunc L k aE zE enc hk h1 cf hO g cb b off c xs.toArray w eg (fun m os dk _ x y => hcmp _ x y) hH hblk (by simpa using hsz)
      rw [List.size_toArray] at key
      refine key.mono ?_
      rintro e w' ⟨rfl, d', m, os, hp, hs, rfl⟩
      have hds : d'.size = xs.length := by simpa using hp.1
      have hF : off + (flatK enc k d').size ≤ arr.size := by rw [size_flatK, hds]; omega
      have hin : ∀ x, x < w.heap.size → (sortWorldK enc k w b off m d' os).heap[x]? = if b = x then some (.cells (putCells id off (flatK enc k d') arr) e (0, 0)) else w.heap[x]? := fun x hx => by
        show ((w.heap.modify b (onCells (putCells id off (flatK enc k d')))) ++ os)[x]? = _
        rw [Array.getElem?_append_left (by simpa using hx), Array.getElem?_modify]
        by_cases hb : b = x
        · subst hb
          rw [if_pos rfl, if_pos rfl, hw]; rfl
        · rw [if_neg hb, if_neg hb]
      refine ⟨_, upd h b (.cells (putCells id off (flatK enc k d') arr) e (0, 0)), rfl, ⟨rfl, d'.toList, ?_, ?_, ?_, fun x hx => upd_ne (fun e => hx (by rw [e]; rfl))⟩, ⟨fun x o hx => ?_, fun x o hx => ?_, ?_⟩⟩
      · have h3 := hp.2.2
        have e1 : d'.extract 0 xs.length = d' := by rw [← hds]; simp
        have e2 : xs.toArray.extract 0 xs.length = xs.toArray := by simp
        rw [e1, e2] at h3
        simpa using h3
      · rw [List.pairwise_iff_getElem]
        intro i j hi hj hij
        have := hs i j (Nat.zero_le _) hij (by rw [← hds]; simpa using hj)
        rw [getElem!_pos d' i (by simpa using hi), getElem!_pos d' j (by simpa using hj)] at this
        simpa using this
      · refine ⟨by rw [flat_length hk]; simp [hds], hA.cap, fun h => (by cases h), fun a ha => ?_⟩
        have e1 := Option.some.inj ha; subst e1
        refine ⟨rfl, _, upd_here .., by rw [putCells_size]; exact hsize, fun j v hj => ?_⟩
        refine putCells_in off _ _ j v ?_ hF
        have := flatK_get hk d'.toList j
        rw [this]; exact hj
      · by_cases hb : x = b
        · subst hb
          rw [upd_here] at hx
          rw [hin _ hblk, if_pos rfl]; exact hx
        · rw [upd_ne hb] at hx
          have := d.ext x o hx
          rw [hin _ (Array.getElem?_eq_some_iff.1 this).1, if_neg (Ne.symm hb)]; exact this
      · have h2 := d.hid x o hx
        have hb : x ≠ b := fun e => by rw [e, harr] at h2; cases h2.2
        exact ⟨by rw [hin _ (Array.getElem?_eq_some_iff.1 h2.1).1, if_neg (Ne.symm hb)]; exact h2.1, by rw [upd_ne hb]; exact h2.2⟩
      · refine d.size.trans ⟨?_, rfl, rfl, rfl, ?_⟩
        · show w.heap.size ≤ ((w.heap.modify b _) ++ os).size
          simp
        · show w.drawn ≤ w.drawn + m
          omega
theorem sort_tris (L : SlLaysF0.n6 P ρ) (k : Nat) (aE : ∀ w, (isAgg (ρ.t 24)).run P w = .ok true w) (zE : ∀ w, (Go.sizeOf (ρ.t 24)).run P w = .ok k w) (enc : α → List Value) (hk : ∀ x, (enc x).length = k) (h1 : ∀ x, ∀ v ∈ enc x, v.oneCell' = true)
    (cf : α → α → Int) (hO : SWO (ltOf cf)) (g : Nat) (eg : ∀ args w, (callFunc g args).run P w = .ok (.enter g args) w)
    (hcmp : ∀ (W : World) (x y : α), Calls P g #[.agg (enc x).toArray, .agg (enc y).toArray] W fun e w' => e = .returned (.int .i64 (cf x y)) ∧ ∃ q os, w' = grow (W.drewN q) os)
    {h : Hp} {A : Option Addr} {n c : Nat} {e : TypeId} (xs : List α) (hA : Own h A n c e k (xs.flatMap enc)) (hn : n = xs.length) (hsz : n < 4611686018427387904) {f : FuncId} (hf : f = ρ.f 6) (s : SV) (hs : valE [] s = some (.func (.func g) #[] #[])) :
    TriS P f [.v (.slice A n c), s] [] h (fun _ : Unit => .v (.tuple #[])) (fun _ => []) (fun _ h' => ∃ ys : List α, ys.Perm xs ∧ ys.Pairwise (fun x y => ltOf cf y x = false) ∧ Own h' A n c e k (ys.flatMap enc) ∧ ∀ b, blk A ≠ some b → h' b = h b) := by
  intro _ _ vs h0 e1 e2
  simp only [valsE, valE, hs, Option.some.injEq] at e1
  subst e1
  have e : h = h0 := by simpa [addsE] using e2
  subst e
  subst hf
  refine (sort_tri L k aE zE enc hk h1 cf hO g #[] eg (fun W x y => by simpa using hcmp W x y) xs hA hn hsz).mono ?_
  rintro v h' ⟨rfl, hy⟩
  exact ⟨(), h', rfl, rfl, fun b hb => (by simp [names] at hb), hy⟩
end Go.Sy
/- slices.SortFunc over pairs, slices.Clone of pairs, impl.sortedPairs. No condition. -/
namespace Go.Proofs.YtkamfnmbidnhdaaDoor
open Go.Sy
set_option maxRecDepth 100000
set_option maxHeartbeats 4000000
set_option linter.unusedVariables false
set_option linter.unusedSimpArgs false
structure KP where
  val : Pr
  ok : Kd val.key
instance : Inhabited KP := ⟨⟨⟨⟨0, 0, ⟨#[]⟩, 0⟩, ⟨0, 0, ⟨#[]⟩, 0⟩⟩, ⟨Int.le_refl _, by decide⟩⟩⟩
def KP.c (x : KP) : List Value := x.val.c
theorem KP.c_len (x : KP) : x.c.length = 8 := rfl
theorem KP.one (x : KP) : ∀ v ∈ x.c, v.oneCell' = true := fun v hv => by
  simp only [KP.c, Pr.c, List.mem_cons, List.not_mem_nil, or_false] at hv
  rcases hv with rfl | rfl | rfl | rfl | rfl | rfl | rfl | rfl <;> rfl
theorem kp_flat (l : List KP) : l.flatMap KP.c = (l.map KP.val).flatMap Pr.c := by
  induction l with
  | nil => rfl
  | cons x r ih => simp only [List.flatMap_cons, List.map_cons, ih]; rfl
theorem kp_of : ∀ (xs : List Pr), (∀ p ∈ xs, Kd p.key) → ∃ l : List KP, l.map KP.val = xs
  | [], _ => ⟨[], rfl⟩
  | p :: r, h => by
    obtain ⟨l, hl⟩ := kp_of r (fun x hx => h x (.tail _ hx))
    exact ⟨⟨p, h p (.head _)⟩ :: l, by rw [List.map_cons, hl]⟩
theorem sort117 (xs : List Pr) (A : Option Addr) (n c : Nat) (h : Hp) (hO : Own h A n c 61 8 (xs.flatMap Pr.c)) (hk : ∀ p ∈ xs, Kd p.key) (hl : xs.length ≤ 1000000) :
    TriS Tryd.prog 117 [.v (.slice A n c), .v (.func (.func 118) #[] #[])] [] h (fun _ : Unit => .v (.tuple #[])) (fun _ => []) (fun _ h' => ∃ ys : List Pr, ys.Perm xs ∧ Srt ys ∧ Own h' A n c 61 8 (ys.flatMap Pr.c) ∧ ∀ b, blk A ≠ some b → h' b = h b) := by
  obtain ⟨l, rfl⟩ := kp_of xs hk
  rw [← kp_flat] at hO
  have hn : n = l.length := by have := hO.len; rw [flat_length KP.c_len] at this; omega
  have key := sort_tris (Tryd.sortPr) 8 Tryd.isAgg61 Tryd.sizeOf61 KP.c KP.c_len KP.one (fun x y : KP => kc x.1.key y.1.key) (kc_swo fun x : KP => x.1.key) 118 (enters_of Tryd.func118 (by kernel_rfl) rfl)
    (fun W x y => le_lays (val := fun z : Int => .v (.int .i64 z)) (r := kc x.1.key y.1.key) W rfl rfl (cmp118 x.1 y.1 (hpOf W) x.2 y.2)) l hO hn (by rw [List.length_map] at hl; omega) (f := 117) rfl (.v (.func (.func 118) #[] #[])) rfl
  intro e1 e2 vs h0 e3 e4
  refine (key e1 e2 vs h0 e3 e4).mono ?_
  rintro v h'' ⟨y, h', a, b, c, ys, hp, hs, hO', hK⟩
  refine ⟨y, h', a, b, c, ys.map KP.val, hp.map _, ?_, by rw [← kp_flat]; exact hO', hK⟩
  unfold Srt
  rw [List.pairwise_map]
  exact hs
theorem clone116 (xs : List Pr) (A : Option Addr) (n c : Nat) (h : Hp) (hP : Pairs h A n xs) (hl : xs.length ≤ 1000000) :
    TriS Tryd.prog 116 [.v (.slice A n c)] [] h (fun y : Option Addr × Nat => .v (.slice y.1 xs.length y.2)) (fun _ => []) (fun y h' => Own h' y.1 xs.length y.2 61 8 (xs.flatMap Pr.c) ∧ Le h h' ∧ Off h y.1) := by
  obtain rfl := hP.1
  refine enterS Tryd.func116 rfl (n := 8) rfl rfl (fun k N => ?_)
  cases A with
  | none =>
    have h0 := hP.2.nil rfl
    have : xs = [] := List.length_eq_zero_iff.1 h0
    subst this
    repeat' (first | (refine r_pure hT rfl rfl rfl rfl ?_) | (refine r_new hT rfl rfl rfl rfl ?_) | (refine r_write hT rfl rfl rfl ?_) | (refine r_nil ?_) | (refine q_nil ?_) | (refine r_slnil hT rfl rfl rfl rfl rfl rfl rfl ?_) | (refine r_arith rfl rfl rfl rfl rfl rfl rfl (by omega) ?_) | (with_reducible refine r_seq ?_) | (with_reducible refine x_then ?_) | (with_reducible refine r_region ?_) | (refine r_draw hM (by kernel_rfl) ?_) | (with_reducible refine r_skip ?_) | (with_reducible refine r_ret ?_) | (with_reducible refine x_then_ret ?_) | (with_reducible refine r_block ?_) | (with_reducible refine x_block ?_) | (with_reducible refine x_block_ret ?_) | (with_reducible refine r_exit ?_) | (with_reducible refine x_then_exit ?_) | (with_reducible refine x_block_here ?_) | (refine x_block_past rfl ?_) | (refine c_yes rfl (by omega) ?_) | (refine c_no rfl (by omega) ?_) | (refine c_no rfl (fun h => h rfl) ?_) | (refine r_cond_false rfl ?_) | (refine r_cond_true rfl ?_) | (refine r_cond_dec rfl (fun _ => ?_) (fun _ => ?_)) | (refine r_cond_true rfl ?_) | (refine r_cond_false rfl ?_) | (refine c_not rfl (fun _ => ?_) (fun _ => ?_)) | (refine r_off rfl rfl rfl ?_) | (refine q_guard rfl rfl (fun _ => ?_) (fun _ => ?_)) | (refine q_guardn rfl rfl (fun _ => ?_) (fun _ => ?_)))
    exact r_fin hT rfl ((none, 0) : Option Addr × Nat) rfl rfl rfl trivial rfl ⟨own_nil, Le.refl _, off_nil⟩
  | some ad =>
    repeat' (first | (refine r_pure hT rfl rfl rfl rfl ?_) | (refine r_new hT rfl rfl rfl rfl ?_) | (refine r_write hT rfl rfl rfl ?_) | (refine r_nil ?_) | (refine q_nil ?_) | (refine r_slnil hT rfl rfl rfl rfl rfl rfl rfl ?_) | (refine r_bslice hT (ps := []) rfl rfl rfl rfl rfl rfl rfl (by simp) rfl rfl (by decide) (fun b3 hb3 => ?_)) | ((refine r_append hT (cs := []) (news := xs.flatMap Pr.c) rfl rfl rfl rfl rfl rfl rfl rfl rfl rfl rfl ⟨rfl, Nat.le_refl _, fun h => (by cases h), fun a ha => (by have e := Option.some.inj ha; subst e; exact ⟨rfl, _, upd_here .., Nat.le_refl _, fun j v hj => (by simp at hj)⟩)⟩ (hP.2.le ((Le.refl h).upd hb3)) (Pr.one _) (by dsimp only; omega) (by omega) (fun A' c' u3 hO3 hG3 => ?_))) | (refine r_arith rfl rfl rfl rfl rfl rfl rfl (by omega) ?_) | (with_reducible refine r_seq ?_) | (with_reducible refine x_then ?_) | (with_reducible refine r_region ?_) | (refine r_draw hM (by kernel_rfl) ?_) | (with_reducible refine r_skip ?_) | (with_reducible refine r_ret ?_) | (with_reducible refine x_then_ret ?_) | (with_reducible refine r_block ?_) | (with_reducible refine x_block ?_) | (with_reducible refine x_block_ret ?_) | (with_reducible refine r_exit ?_) | (with_reducible refine x_then_exit ?_) | (with_reducible refine x_block_here ?_) | (refine x_block_past rfl ?_) | (refine c_yes rfl (by omega) ?_) | (refine c_no rfl (by omega) ?_) | (refine c_no rfl (fun h => h rfl) ?_) | (refine r_cond_false rfl ?_) | (refine r_cond_true rfl ?_) | (refine r_cond_dec rfl (fun _ => ?_) (fun _ => ?_)) | (refine r_cond_true rfl ?_) | (refine r_cond_false rfl ?_) | (refine c_not rfl (fun _ => ?_) (fun _ => ?_)) | (refine r_off rfl rfl rfl ?_) | (refine q_guard rfl rfl (fun _ => ?_) (fun _ => ?_)) | (refine q_guardn rfl rfl (fun _ => ?_) (fun _ => ?_)))
    have hk := hG3 h ((Le.refl h).upd hb3) (fun b hb => by have e := Option.some.inj hb; subst e; exact hb3)
    have e0 : 0 + xs.length = xs.length := by omega
    rw [e0] at hO3 ⊢
    exact r_fin hT rfl (A', c') rfl rfl rfl trivial rfl ⟨by simpa using hO3, hk.1, hk.2⟩
theorem sorted78 (t : List Pr) (A : Option Addr) (n c : Nat) (h : Hp) (hP : Pairs h A n t) (hk : ∀ p ∈ t, Kd p.key) (hl : t.length ≤ 1000000) :
    TriS Tryd.prog 78 [.ag [.v (.slice A n c)]] [] h (fun y : Option Addr × Nat => .v (.slice y.1 t.length y.2)) (fun _ => []) (fun y h' => ∃ ys : List Pr, ys.Perm t ∧ Srt ys ∧ Own h' y.1 t.length y.2 61 8 (ys.flatMap Pr.c) ∧ Le h h' ∧ Off h y.1) := by
  refine enterS Tryd.func78 rfl (n := 10) rfl rfl (fun k N => ?_)
  repeat' (first | (refine r_pure hT rfl rfl rfl rfl ?_) | (refine r_new hT rfl rfl rfl rfl ?_) | (refine r_write hT rfl rfl rfl ?_) | (refine r_nil ?_) | (refine q_nil ?_) | (refine r_call (clone116 t A n c h hP hl) rfl rfl rfl rfl rfl (hC _ rfl) rfl rfl (fun y h1 hy => ?_)) | (refine r_call (sort117 t y.1 t.length y.2 h1 hy.1 hk hl) rfl rfl rfl rfl rfl (hC _ rfl) rfl rfl (fun z h2 hz => ?_)) | (refine r_arith rfl rfl rfl rfl rfl rfl rfl (by omega) ?_) | (with_reducible refine r_seq ?_) | (with_reducible refine x_then ?_) | (with_reducible refine r_region ?_) | (refine r_draw hM (by kernel_rfl) ?_) | (with_reducible refine r_skip ?_) | (with_reducible refine r_ret ?_) | (with_reducible refine x_then_ret ?_) | (with_reducible refine r_block ?_) | (with_reducible refine x_block ?_) | (with_reducible refine x_block_ret ?_) | (with_reducible refine r_exit ?_) | (with_reducible refine x_then_exit ?_) | (with_reducible refine x_block_here ?_) | (refine x_block_past rfl ?_) | (refine c_yes rfl (by omega) ?_) | (refine c_no rfl (by omega) ?_) | (refine c_no rfl (fun h => h rfl) ?_) | (refine r_cond_false rfl ?_) | (refine r_cond_true rfl ?_) | (refine r_cond_dec rfl (fun _ => ?_) (fun _ => ?_)) | (refine r_cond_true rfl ?_) | (refine r_cond_false rfl ?_) | (refine c_not rfl (fun _ => ?_) (fun _ => ?_)) | (refine r_off rfl rfl rfl ?_) | (refine q_guard rfl rfl (fun _ => ?_) (fun _ => ?_)) | (refine q_guardn rfl rfl (fun _ => ?_) (fun _ => ?_)))
  obtain ⟨h3, h4, h5⟩ := hy
  obtain ⟨ys, g1, g2, g3, g4⟩ := hz
  refine r_fin hT rfl y rfl rfl rfl trivial rfl ⟨ys, g1, g2, g3, fun b o hb => ?_, h5⟩
  rw [g4 b (fun e => by rw [h5 b e] at hb; cases hb)]
  exact h4 b o hb
end Go.Proofs.YtkamfnmbidnhdaaDoor
/- The walk by a symbolic frame: a block of the frame, which may name itself, handed to the heap at large. -/
namespace Go.Sy
section
variable {P : Program} {F : Fr} {tm : Tm} {L : Lm} {u : Hp} {Q : Exit → Act → World → Prop}
/-- A block that may name itself. -/
theorem r_pub {l r : List Oper} (i : Nat) {B : Blk} (vs : Nat → List Value) (hK : F.K = []) (hB : kget L i = some B) (hv : ∀ b, valsE [] (SV.pubs i b B.cells) = some (vs b))
    (next : ∀ b, u b = none → Run P Q F (pubT i b tm) (pubL i b L) (upd u b (.cells (vs b).toArray B.ty (0, 0))) .seq l r) (hD : F.n.D = [] := by rfl) : Run P Q F tm L u .seq l r := by
  intro β a w hf ht hd
  obtain ⟨h1, h2, h3⟩ := hd.loc i B hB
  have hi : (kget L i).isSome = true := by rw [hB]; rfl
  have hu : u (β i) = none := by
    cases h : u (β i) with
    | none => rfl
    | some o => exact absurd rfl ((hd.ext _ o h).2 i hi)
  rw [← pubs_den (b := β i) rfl, valsE_den (L := []) (fun j B b h => by simp [kget] at h) (hv (β i))] at h1
  refine next (β i) hu β a w (fun j hj => by rw [hK] at hj; cases hj) ⟨ht.size, ht.defers, by rw [hD]; rfl, fun t s hs => ?_⟩ ⟨fun j B' hB' => ?_, fun x y hx hy => ?_, fun x o hx => ?_, fun x o hx => ⟨(hd.hid x o hx).1, ?_, fun j hj => ?_⟩, hd.size⟩
  · obtain ⟨s0, g1, rfl⟩ := pubT_get hs
    rw [pub_den rfl]
    exact ⟨(ht.get t s0 g1).1, pub_ok s0 (ht.get t s0 g1).2⟩
  · obtain ⟨_, B0, g1, rfl⟩ := pubL_get hB'
    obtain ⟨x1, x2, x3⟩ := hd.loc j B0 g1
    exact ⟨by rw [pubs_den rfl]; exact x1, x2, pubs_ok _ x3⟩
  · obtain ⟨Bx, hBx⟩ := Option.isSome_iff_exists.1 hx
    obtain ⟨By, hBy⟩ := Option.isSome_iff_exists.1 hy
    obtain ⟨_, _, g1, _⟩ := pubL_get hBx
    obtain ⟨_, _, g2, _⟩ := pubL_get hBy
    exact hd.inj x y (by rw [g1]; rfl) (by rw [g2]; rfl)
  · have hne : ∀ j, (kget (pubL i (β i) L) j).isSome = true → j ≠ i ∧ (kget L j).isSome = true := fun j hj => by
      obtain ⟨Bj, hBj⟩ := Option.isSome_iff_exists.1 hj
      obtain ⟨g0, _, g1, _⟩ := pubL_get hBj
      exact ⟨g0, by rw [g1]; rfl⟩
    by_cases hxb : x = β i
    · subst hxb
      rw [upd_here] at hx; have e := Option.some.inj hx; subst e
      exact ⟨h1, fun j hj e => (hne j hj).1 (hd.inj j i (hne j hj).2 hi e)⟩
    · rw [upd_ne hxb] at hx
      exact ⟨(hd.ext x o hx).1, fun j hj => (hd.ext x o hx).2 j (hne j hj).2⟩
  · rw [upd_ne (fun e => (hd.hid x o hx).2.2 i hi e.symm)]; exact (hd.hid x o hx).2.1
  · obtain ⟨Bj, hBj⟩ := Option.isSome_iff_exists.1 hj
    obtain ⟨_, _, g1, _⟩ := pubL_get hBj
    exact (hd.hid x o hx).2.2 j (by rw [g1]; rfl)
end
theorem up_none {u : Hp} {b x : Nat} {o : Obj} (h : upd u b o x = none) : x ≠ b ∧ u x = none := by
  by_cases e : x = b
  · subst e; rw [upd_here] at h; cases h
  · exact ⟨e, by rwa [upd_ne e] at h⟩
end Go.Sy
/- The specification's freezing, whole. No condition. -/
namespace Go.Proofs.YtkamfnmbidnhdaaDoor
open Go.Sy
set_option maxRecDepth 100000
set_option maxHeartbeats 8000000
set_option linter.unusedVariables false
set_option linter.unusedSimpArgs false
def multi (ts : List (List Pr)) (v : V) (a : Nat) : Bool := decide (1 < (rf ts (ts.length + 1) [] v).count a)
end Go.Proofs.YtkamfnmbidnhdaaDoor
namespace Go.Proofs.YtkamfnmbidnhdaaDoor
open Go.Sy
set_option maxRecDepth 100000
set_option maxHeartbeats 4000000
set_option linter.unusedVariables false
set_option linter.unusedSimpArgs false
theorem WSt.le {h0 u u' : Hp} {pb : Nat} {g : V} {A : Option Addr} {c : Nat} {ts : List (List Pr)} {bn offn cn : Nat} {Ao : Option Addr} {co : Nat} {ord : List Nat} (h : WSt h0 u pb g A c ts bn offn cn Ao co ord) (hl : Le u u') : WSt h0 u' pb g A c ts bn offn cn Ao co ord :=
  ⟨hl _ _ h.cell, h.no.le fun b o _ => hl b o, h.od.le fun b o _ => hl b o, h.base.trans hl, h.hp, h.hn, h.ho, h.ap, h.tabs⟩
theorem sl_all {u : Hp} {b m sz : Nat} {vs : List Value} {t : TypeId} (h : u b = some (.cells vs.toArray t (0, 0))) (hl : vs.length = m * sz) : Sl u (some ⟨b, 0, none⟩) m sz vs :=
  ⟨hl, fun h => (by cases h), fun a ha _ => by have e := Option.some.inj ha; subst e; exact ⟨rfl, _, _, _, h, fun j x hj => by simpa using hj⟩⟩
theorem pr_ones {p : Pr} : ∀ v ∈ Pr.c p, Go.Sy.one v = true := fun v hv => by
  simp only [Pr.c, List.mem_cons, List.not_mem_nil, or_false] at hv
  rcases hv with rfl | rfl | rfl | rfl | rfl | rfl | rfl | rfl <;> rfl
theorem le_fresh {h u : Hp} {b : Nat} {o : Obj} (hl : Le h u) (hb : u b = none) : Le h (upd u b o) := fun x o' hx => by
  rw [upd_ne (fun e => by subst e; rw [hl _ _ hx] at hb; cases hb)]; exact hl x o' hx
end Go.Proofs.YtkamfnmbidnhdaaDoor
namespace Go.Proofs.YtkamfnmbidnhdaaDoor
open Go.Sy
set_option maxRecDepth 100000
set_option maxHeartbeats 4000000
set_option linter.unusedVariables false
set_option linter.unusedSimpArgs false
theorem vok_in {v : V} {n : Nat} (h : VOk v n) : In n v := fun h4 => by
  unfold VOk at h; rcases h with h | h | h | h | h <;> omega
theorem gok_in {v : V} {ts : List (List Pr)} (h : GOk v ts) : AllIn ts ∧ In ts.length v ∧ ts.length ≤ 200 ∧ ∀ t ∈ ts, t.length ≤ 100 :=
  ⟨fun t ht p hp => vok_in ((h.2.2 t ht).2.1 p hp).2.1, vok_in h.2.1, h.1, fun t ht => (h.2.2 t ht).1⟩
def V0 : V := ⟨0, 0, ⟨⟨[]⟩⟩, 0⟩
/-- What Canon answers. -/
def cV (v : V) (ts : List (List Pr)) : V := if GOk v ts then ren (ordOf ts v) v else V0
def cT (v : V) (ts : List (List Pr)) : List (List Pr) := if GOk v ts then cTs ts (ordOf ts v) else []
end Go.Proofs.YtkamfnmbidnhdaaDoor
/- The specification's freezing: the plain text of a graph that is well made; spec.Freeze. No condition. -/
namespace Go.Proofs.YtkamfnmbidnhdaaDoor
open Go.Sy
set_option maxRecDepth 100000
set_option maxHeartbeats 8000000
set_option linter.unusedVariables false
set_option linter.unusedSimpArgs false
def Rng (v : V) : Prop := -9223372036854775808 ≤ v.n ∧ v.n ≤ 9223372036854775807
def RngG (v : V) (ts : List (List Pr)) : Prop := Rng v ∧ ∀ t ∈ ts, ∀ p ∈ t, Rng p.key ∧ Rng p.val
theorem vok_size {v : V} {n : Nat} (h : VOk v n) : v.s.size ≤ 500 := by
  have h0 : v.s.toList = [] → v.s.size ≤ 500 := fun e => by
    have := text_eq.1 (e.trans nil_list.symm)
    rw [this]; show 0 ≤ 500; omega
  rcases h with h | h | h | h | h
  · exact h0 h.2.2.1
  · exact h0 h.2.2.1
  · exact h0 h.2.1
  · exact h.2.2.2
  · exact h0 h.2.2.1
theorem itoa_len {n : Int} (h0 : -9223372036854775808 ≤ n) (h1 : n ≤ 9223372036854775807) : (Lib.itoa n).length ≤ 21 := by
  by_cases hz : n = 0
  · rw [hz, itoa_zero]; simp
  · rw [itoa_rdg n hz, List.length_append, List.length_reverse]
    have := rdg_len 20 n.natAbs (by omega)
    split <;> simp <;> omega
theorem plT_len {v : V} (hs : v.s.size ≤ 500) (hr : Rng v) : (plT v).length ≤ 1502 := by
  unfold plT
  split
  · split <;> simp
  · split
    · have := itoa_len hr.1 hr.2; omega
    · split
      · have := qt_len v.s.data.toList
        have e : v.s.data.toList.length = v.s.size := rfl
        omega
      · simp
theorem gok_fit {v : V} {ts : List (List Pr)} (h : GOk v ts) (hr : RngG v ts) : FzOk ts plT dcN 1502 ∧ Fit ts ∧ v.fit ∧ (plT v).length ≤ 1502 := by
  obtain ⟨i1, i2, i3, i4⟩ := gok_in h
  have hv := vok_size h.2.1
  refine ⟨⟨i1, i4, fun t ht p hp => ?_, fun k hk => by have := itoa_len (n := (k : Int)) (by omega) (by omega); unfold dcN; omega⟩, fun t ht p hp => ?_, ⟨hr.1, by omega⟩, plT_len hv hr.1⟩
  · have hp1 := (h.2.2 t ht).2.1 p hp
    obtain ⟨r1, r2⟩ := hr.2 t ht p hp
    exact ⟨plT_len (vok_size hp1.1.2) r1, plT_len (vok_size hp1.2.1) r2⟩
  · have hp1 := (h.2.2 t ht).2.1 p hp
    obtain ⟨r1, r2⟩ := hr.2 t ht p hp
    have e1 := vok_size hp1.1.2
    have e2 := vok_size hp1.2.1
    exact ⟨⟨r1, by omega⟩, ⟨r2, by omega⟩⟩
theorem trefs_len (t : List Pr) : (trefs t).length ≤ t.length := by
  unfold trefs
  induction t with
  | nil => simp
  | cons p r ih =>
    rw [List.flatMap_cons, List.length_append, List.length_cons]
    have : (vrefs p.val).length ≤ 1 := by unfold vrefs; split <;> simp
    omega
theorem brefs_sum {ts : List (List Pr)} (h : ∀ t ∈ ts, t.length ≤ 100) : ∀ l : List Nat, (l.flatMap (brefs ts)).length ≤ 100 * l.length
  | [] => by simp
  | b :: r => by
    have := brefs_sum h r
    have hb : (brefs ts b).length ≤ 100 := by
      unfold brefs
      have := trefs_len (ts.getD b [])
      have h2 : (ts.getD b []).length ≤ 100 := by
        rw [List.getD_eq_getElem?_getD]
        cases hq : ts[b]? with
        | none => simp
        | some t => exact h t (List.mem_of_getElem? hq)
      omega
    rw [List.flatMap_cons, List.length_append, List.length_cons]; omega
theorem rs_len {v : V} {ts : List (List Pr)} (h : GOk v ts) : (rf ts (ts.length + 1) [] v).length ≤ 1000000 := by
  obtain ⟨i1, i2, i3, i4⟩ := gok_in h
  rw [(rf_all i1 i2).length_eq, List.length_append]
  have h1 : (vrefs v).length ≤ 1 := by unfold vrefs; split <;> simp
  have h2 := brefs_sum i4 (ordOf ts v)
  have h3 := (ordOf_nm i1 i2).len
  omega
/-- The text of a graph that is well made. -/
theorem gok_txt {v : V} {ts : List (List Pr)} (h : GOk v ts) (hr : RngG v ts) : ∃ r, tx ts (multi ts v) plT dcN (ts.length + 1) ⟨[], []⟩ v = some r ∧ r.L.length ≤ 1000000 ∧ r.o.length ≤ 900000000 ∧ ∀ a ∈ r.L, a ∈ ordOf ts v := by
  obtain ⟨i1, i2, i3, i4⟩ := gok_in h
  obtain ⟨f1, f2, f3, f4⟩ := gok_fit h hr
  obtain ⟨r, e1, e2, e3, e4⟩ := tx_some (m := multi ts v) f1 (ts.length + 1) [] [] v ⟨[], []⟩ (nm_nil _) i2 f4 (fun a => Iff.rfl) (by simp) rfl (fun a ha => decide_eq_true ha)
  have h3 := (ordOf_nm i1 i2).len
  have h4 : go ts (ts.length + 1) [] v = ordOf ts v := rfl
  rw [h4] at e2 e4
  refine ⟨r, e1, ?_, ?_, fun a ha => ?_⟩
  · rw [e2]
    have := List.length_filter_le (multi ts v) (ordOf ts v)
    omega
  · have : bigK 1502 * ((ordOf ts v).length - ([] : List Nat).length) ≤ bigK 1502 * 200 := Nat.mul_le_mul_left _ (by simp; omega)
    have hb : bigK 1502 = 302406 := rfl
    rw [hb] at this e4
    simp only [List.length_nil] at e4
    simp only [List.length_nil] at this
    omega
  · rw [e2] at ha
    exact (List.mem_filter.1 ha).1
/-- What Freeze answers. -/
def frz (v : V) (ts : List (List Pr)) : List UInt8 := if GOk v ts then (match tx ts (multi ts v) plT dcN (ts.length + 1) ⟨[], []⟩ v with | some r => if 20000 < r.o.length then [] else r.o | none => []) else []
end Go.Proofs.YtkamfnmbidnhdaaDoor
/- Maps with texts as keys, a Builder's text (that may be empty), the text of a value. No condition. -/

namespace Go.Proofs.YtkamfnmbidnhdaaDoor
open Go.Sy
set_option maxRecDepth 100000
set_option maxHeartbeats 4000000
set_option linter.unusedVariables false
set_option linter.unusedSimpArgs false
def sKey (x : ByteArray) : Value := .string x
theorem beq_text (x y : ByteArray) : (x == y) = decide (x = y) := by
  cases x with | mk d =>
  cases y with | mk f =>
  show (d == f) = decide (ByteArray.mk d = ByteArray.mk f)
  by_cases h : d = f
  · subst h; simp
  · have : ¬ ByteArray.mk d = ByteArray.mk f := fun e => h (ByteArray.mk.inj e)
    rw [decide_eq_false this]
    simpa using h
theorem s_now (x : ByteArray) : ∀ (l : List ByteArray) (es : List MapEntry) (i : Nat), es.map (·.key) = l.map sKey →
    Instr.findNow .string (sKey x) es i = some (match l.findIdx? (fun y => decide (x = y)) with | some j => (es[j]?).map (fun e => (i + j, e.val)) | none => none)
  | [], es, i, h => by
    have : es = [] := by simpa using h
    subst this; rfl
  | y :: l, [], i, h => by simp at h
  | y :: l, e :: es, i, h => by
    simp only [List.map_cons, List.cons.injEq] at h
    obtain ⟨h1, h2⟩ := h
    have ih := s_now x l es (i + 1) h2
    by_cases hx : x = y
    · simp [Instr.findNow, h1, sKey, Instr.sameNow, List.findIdx?_cons, hx, text_self]
    · simp only [Instr.findNow, h1, Instr.sameNow, sKey, beq_text, decide_eq_false hx, List.findIdx?_cons]
      simp only [sKey] at ih
      rw [ih]
      cases l.findIdx? (fun y => decide (x = y)) with
      | none => rfl
      | some j => simp [Nat.add_assoc, Nat.add_comm 1 j]
theorem sKey_check (em : Bool) (m : Nat) (w : World) (x : ByteArray) : (Instr.checkKey em (m + 1) 9 (sKey x)).run Tryd.prog w = .ok () w := by
  simp [Instr.checkKey, sKey, run_underlying Tryd.underlying9]
theorem sKeyOps : KeyOps Tryd.prog 9 sKey where
  check w em x := sKey_check em 9999 w x
  find w x l es h := by
    have := s_now x l es 0 h
    simp [Instr.findKey, run_underlying Tryd.underlying9, this]
    cases l.findIdx? (fun y => decide (x = y)) <;> rfl
  stays w x := by simp [Instr.keyThatStays, Instr.sameBits, sKey, text_self]
theorem map154 : Tryd.prog.underlying 154 = some (.map 9 3) := by kernel_rfl
theorem map154L : Tryd.prog.underlying 154 = some (.map (Tryd.prog.mapKeyOf 154) (Tryd.prog.mapElemOf 154)) := by kernel_rfl
theorem stringE (h0 u : Hp) (pb : Nat) (e : TypeId) (pre post : List Value) (ad : Value) (c : Nat) (hB : BSt h0 u pb e pre post ad none c []) :
    Pur Tryd.prog 72 [.v (.pointer (some ⟨pb, pre.length, none⟩))] u (fun _ : Unit => .v (.string ⟨#[]⟩)) () := by
  have hat := hB.at_
  refine enterS Tryd.func72 rfl (n := 14) rfl rfl (fun k N => ?_)
  repeat' (first | (refine r_pure hT rfl rfl rfl rfl ?_) | (refine r_new hT rfl rfl rfl rfl ?_) | (refine r_write hT rfl rfl rfl ?_) | (refine r_nil ?_) | (refine q_nil ?_) | (refine r_many (id := 1) [0, 1, 2, 3, 5, 6, 7, 8, 9] [] u (Le.refl u) hM (by kernel_rfl) rfl (by kernel_rfl) rfl rfl rfl (fun β0 => ?_)) | (refine r_load hT hat rfl rfl rfl rfl rfl rfl rfl rfl rfl rfl rfl ?_) | (refine r_sldata0 rfl rfl rfl rfl rfl ?_) | (refine m_keep (Le.refl u) trivial rfl rfl ?_) | (refine r_ustring0 rfl rfl rfl rfl rfl rfl ?_) | (refine r_arith rfl rfl rfl rfl rfl rfl rfl (by omega) ?_) | (with_reducible refine r_seq ?_) | (with_reducible refine x_then ?_) | (with_reducible refine r_region ?_) | (with_reducible refine r_skip ?_) | (with_reducible refine r_ret ?_) | (with_reducible refine x_then_ret ?_) | (with_reducible refine r_block ?_) | (with_reducible refine x_block ?_) | (with_reducible refine x_block_ret ?_) | (with_reducible refine r_exit ?_) | (with_reducible refine x_then_exit ?_) | (with_reducible refine x_block_here ?_) | (refine x_block_past rfl ?_) | (refine c_yes rfl (by omega) ?_) | (refine c_no rfl (by omega) ?_) | (refine c_no rfl (fun h => h rfl) ?_) | (refine r_cond_false rfl ?_) | (refine r_cond_true rfl ?_) | (refine r_cond_dec rfl (fun _ => ?_) (fun _ => ?_)) | (refine r_cond_true rfl ?_) | (refine r_cond_false rfl ?_) | (refine c_not rfl (fun _ => ?_) (fun _ => ?_)) | (refine r_off rfl rfl rfl ?_) | (refine q_guard rfl rfl (fun _ => ?_) (fun _ => ?_)) | (refine q_guardn rfl rfl (fun _ => ?_) (fun _ => ?_)) | (refine s_nil ?_) | (with_reducible refine a_full ?_) | (refine m_step rfl rfl (List.cons_ne_nil _ _) ?_) | (refine allR_cons rfl ?_ ?_) | (exact allR_nil) | (refine m_end rfl rfl rfl ?_))
  exact r_fin hT rfl () rfl rfl rfl trivial rfl ⟨rfl, rfl⟩
/-- The text that was written; nothing else is turned but the Builder's own bytes. -/
theorem stringA (h0 u : Hp) (pb : Nat) (e : TypeId) (pre post : List Value) (ad : Value) (A : Option Addr) (c : Nat) (o : List UInt8) (hB : BSt h0 u pb e pre post ad A c o) (hz : o = [] → A = none) (hs : o.length ≤ 1000000000) :
    TriS Tryd.prog 72 [.v (.pointer (some ⟨pb, pre.length, none⟩))] [] u (fun _ : Unit => .v (.string (bs o))) (fun _ => []) (fun _ u' => ∀ z ox, blk A ≠ some z → u z = some ox → u' z = some ox) := by
  by_cases hne : o = []
  · have hA := hz hne
    subst hne
    subst hA
    intro e1 e2 vs h1 e3 e4
    refine (stringE h0 u pb e pre post ad c hB e1 e2 vs h1 e3 e4).mono ?_
    rintro v h'' ⟨y, h', a, b, d, f, g⟩
    exact ⟨(), h', a, b, d, fun z ox _ hu => by rw [g]; exact hu⟩
  · exact stringB h0 u pb e pre post ad A c o hB hne hs
abbrev comma : ByteArray := ⟨#[44]⟩
abbrev colon : ByteArray := ⟨#[58]⟩
/-- A value's text, as the program puts it together. -/
def txB (v : V) : ByteArray := ((((((dec v.k ++ comma) ++ dec v.n) ++ comma) ++ dec v.a) ++ comma) ++ dec (v.s.size : Int)) ++ colon ++ v.s
theorem txB_list (v : V) : (txB v).data.toList = tx1 v := by
  unfold txB tx1
  simp only [bs_cat, dec, comma, colon]
  simp
theorem dec_size {n : Int} (h0 : -9223372036854775808 ≤ n) (h1 : n ≤ 9223372036854775807) : (dec n).size ≤ 21 := itoa_len h0 h1
theorem BSt.weak {h0 h1 u : Hp} {pb : Nat} {e : TypeId} {pre post : List Value} {ad : Value} {A : Option Addr} {c : Nat} {o : List UInt8} (h : BSt h1 u pb e pre post ad A c o) (hl : Le h0 h1) : BSt h0 u pb e pre post ad A c o := by
  have hn : ∀ b, h1 b = none → h0 b = none := fun b hb => by
    cases hh : h0 b with
    | none => rfl
    | some ox => have := hl b ox hh; rw [hb] at this; cases this
  exact ⟨h.cell, h.own, h.hd, h.adr, fun x o hx => h.base x o (hl x o hx), hn _ h.hp, fun b hb => hn _ (h.ho b hb), h.ap⟩
/-- A new block is laid beside a Builder. -/
theorem BSt.beside {h0 u : Hp} {pb : Nat} {e : TypeId} {pre post : List Value} {ad : Value} {A : Option Addr} {c : Nat} {o : List UInt8} (h : BSt h0 u pb e pre post ad A c o) {b : Nat} (ob : Obj) (hb : u b = none) : BSt (upd h0 b ob) (upd u b ob) pb e pre post ad A c o := by
  have hpb : pb ≠ b := fun x => by have := h.cell; rw [x, hb] at this; cases this
  have hA : blk A ≠ some b := fun x => by
    cases A with
    | none => cases x
    | some a =>
      obtain ⟨_, arr, h2, _⟩ := h.own.row a rfl
      have e1 : a.block = b := Option.some.inj x
      rw [e1, hb] at h2; cases h2
  refine ⟨by rw [upd_ne hpb]; exact h.cell, own_fr h.own hb, h.hd, h.adr, fun x o hx => ?_, by rw [upd_ne hpb]; exact h.hp, fun z hz => ?_, h.ap⟩
  · by_cases hxb : x = b
    · subst hxb
      rw [upd_here] at hx ⊢; exact hx
    · rw [upd_ne hxb] at hx ⊢; exact h.base x o hx
  · rw [upd_ne (fun x => hA (by rw [← x]; exact hz))]; exact h.ho z hz
end Go.Proofs.YtkamfnmbidnhdaaDoor
/- Graphs whose tables may be classed: what is known of their pairs. Plain; no condition. -/
namespace Go.Proofs.YtkamfnmbidnhdaaDoor
open Go.Sy
set_option linter.unusedVariables false
/-- Tables that may be classed. -/
structure ClOk (ts : List (List Pr)) : Prop where
  num : ts.length ≤ 1000
  tok : ∀ t ∈ ts, TOk t ts.length
  fit : Fit ts
/-- A value that is written into a text. -/
structure Tf (v : V) : Prop where
  k : 0 ≤ v.k ∧ v.k ≤ 4
  n : -9223372036854775808 ≤ v.n ∧ v.n ≤ 9223372036854775807
  a : 0 ≤ v.a ∧ v.a ≤ 1000000
  s : v.s.size ≤ 500
theorem vok_k {v : V} {n : Nat} (h : VOk v n) : (0 ≤ v.k ∧ v.k ≤ 4) ∧ (v.k ≠ 4 → v.a = 0) := by
  rcases h with ⟨a, b, c, d⟩ | ⟨a, b, c, d⟩ | ⟨a, c, d⟩ | ⟨a, b, c, d⟩ | ⟨a, b, c, d, e⟩
  · exact ⟨by omega, fun _ => d⟩
  · exact ⟨by omega, fun _ => d⟩
  · exact ⟨by omega, fun _ => d⟩
  · exact ⟨by omega, fun _ => c⟩
  · exact ⟨by omega, fun h => absurd a h⟩
theorem ClOk.inAll {ts : List (List Pr)} (h : ClOk ts) : AllIn ts := fun t ht p hp => vok_in ((h.tok t ht).2.1 p hp).2.1
theorem ClOk.kd {ts : List (List Pr)} (h : ClOk ts) {t : List Pr} (ht : t ∈ ts) {p : Pr} (hp : p ∈ t) : Kd p.key := by
  have h1 := ((h.tok t ht).2.1 p hp).1.1
  unfold Kd
  omega
theorem ClOk.ky {ts : List (List Pr)} (h : ClOk ts) {t : List Pr} (ht : t ∈ ts) {p : Pr} (hp : p ∈ t) : Ky p.key ∧ p.key.s.size ≤ 1000000 :=
  ⟨ky_of ((h.tok t ht).2.1 p hp).1, Nat.le_trans (vok_size ((h.tok t ht).2.1 p hp).1.2) (by decide)⟩
theorem ClOk.uniq {ts : List (List Pr)} (h : ClOk ts) {t : List Pr} (ht : t ∈ ts) {ys : List Pr} (h1 : ys.Perm t) (h2 : Srt ys) : ys = srt t := tok_uniq (h.tok t ht) h1 h2
theorem ClOk.tfk {ts : List (List Pr)} (h : ClOk ts) {t : List Pr} (ht : t ∈ ts) {p : Pr} (hp : p ∈ t) : Tf p.key := by
  obtain ⟨h1, h2, h3⟩ := (h.tok t ht).2.1 p hp
  obtain ⟨k1, k2⟩ := vok_k h1.2
  have := k2 (by have := h1.1; omega)
  exact ⟨k1, (h.fit t ht p hp).1.1, by omega, vok_size h1.2⟩
theorem ClOk.tfv {ts : List (List Pr)} (h : ClOk ts) {t : List Pr} (ht : t ∈ ts) {p : Pr} (hp : p ∈ t) {c : List Nat} (hc : CIn ts.length c) : Tf (lk c p.val) := by
  obtain ⟨h1, h2, h3⟩ := (h.tok t ht).2.1 p hp
  have h4 := vok_lk h2 hc
  obtain ⟨k1, k2⟩ := vok_k h4
  have hn := h.num
  have hin := vok_in h4
  refine ⟨k1, ?_, ?_, vok_size h4⟩
  · have := (h.fit t ht p hp).2.1
    unfold lk
    split <;> exact this
  · by_cases e : (lk c p.val).k = 4
    · have := hin e; omega
    · have := k2 e; omega
theorem ClOk.srt_mem {ts : List (List Pr)} {i : Nat} {t : List Pr} (hi : ts[i]? = some t) : (ts.map srt)[i]? = some (srt t) := by rw [List.getElem?_map, hi]; rfl
theorem ClOk.inSrt {ts : List (List Pr)} (h : ClOk ts) : AllIn (ts.map srt) := allin_srt h.inAll
theorem tx1_len {v : V} (h : Tf v) : (tx1 v).length ≤ 600 := by
  have h1 := itoa_len (n := v.k) (by have := h.k; omega) (by have := h.k; omega)
  have h2 := itoa_len (n := v.n) h.n.1 h.n.2
  have h3 := itoa_len (n := v.a) (by have := h.a; omega) (by have := h.a; omega)
  have h4 := itoa_len (n := (v.s.size : Int)) (by omega) (by have := h.s; omega)
  have h5 : v.s.data.toList.length = v.s.size := Array.length_toList
  have h6 := h.s
  unfold tx1
  simp only [List.length_append, List.length_cons]
  omega
end Go.Proofs.YtkamfnmbidnhdaaDoor
