/- The reference's first cycle, plain. -/
import Derived.Test.YtbfbkpoakmnlpaaWrs
import Derived.Test.YtbfbkpoakmnlpaaTgp
namespace Go.Proofs.Ytbfbkpoakmnlpaa
open Go.RowKit

def firstN (F : Nat → List Int) : Nat → List Int
  | 0 => []
  | n + 1 => if (firstN F n).length = 0 then F n else firstN F n
theorem firstN_none {F : Nat → List Int} : ∀ {n : Nat}, (∀ j < n, F j = []) → firstN F n = []
  | 0, _ => rfl
  | n + 1, h => by
    rw [firstN, firstN_none (fun j hj => h j (by omega)), h n (by omega)]; rfl
theorem firstN_hit {F : Nat → List Int} {k : Nat} (h : ∀ j < k, F j = []) (hk : F k ≠ []) : ∀ {n : Nat}, k < n → firstN F n = F k
  | 0, hn => by omega
  | n + 1, hn => by
    rw [firstN]
    by_cases e : k = n
    · subst e
      rw [firstN_none h]; rfl
    · rw [firstN_hit h hk (show k < n by omega), if_neg]
      intro q; exact hk (List.eq_nil_of_length_eq_zero q)
theorem firstN_some {F : Nat → List Int} : ∀ {n : Nat}, firstN F n ≠ [] → ∃ k < n, F k ≠ []
  | 0, h => absurd rfl h
  | n + 1, h => by
    rw [firstN] at h
    split at h
    · exact ⟨n, by omega, h⟩
    · obtain ⟨k, hk, q⟩ := firstN_some h
      exact ⟨k, by omega, q⟩
def lastZ (l : List Int) : Int := l.getD (l.length - 1) 0
theorem lastZ_snoc (l : List Int) (b : Int) : lastZ (l ++ [b]) = b := by
  unfold lastZ
  rw [List.getD_eq_getElem?_getD, List.length_append]
  simp
def extC (p : GProg) (bg : List Int) (k : Nat) : Bool := edB p (lastZ bg) (bg.headD 0 + 1 + (k : Int)) && decide ((bg.headD 0 + 1 + (k : Int)) ∉ bg)
def extF (p : GProg) (len : Nat) : Nat → List Int → List Int
  | 0, _ => []
  | f + 1, bg => if bg.length = len then (if edB p (lastZ bg) (bg.headD 0) then bg else [])
      else firstN (fun k => if extC p bg k then extF p len f (bg ++ [bg.headD 0 + 1 + (k : Int)]) else []) (p.n - bg.headD 0).toNat
def refCyc (p : GProg) : List Int := firstN (fun k => firstN (fun a => extF p (k + 1) (k + 1) [(a : Int) + 1]) p.n.toNat) p.n.toNat
theorem edB_row {p : GProg} (h0 : 0 ≤ p.n) {a b : Int} (a0 : 0 ≤ a) (a1 : a ≤ p.n) (b0 : 0 < b) : edB p a b = true ↔ b ∈ rowZ (ofL p) a := by
  rw [edB_iff b0, of_edge h0 a0 a1]
theorem head_snoc {bg : List Int} (h : bg ≠ []) (b : Int) : (bg ++ [b]).headD 0 = bg.headD 0 := by
  cases bg with
  | nil => exact absurd rfl h
  | cons x t => rfl
theorem ext_sound {p : GProg} (hi : ProgIs p) (len : Nat) : ∀ (f : Nat) (bg : List Int), bg ≠ [] → bg.length ≤ len → 1 ≤ bg.headD 0 → bg.headD 0 ≤ lastZ bg → lastZ bg ≤ p.n → extF p len f bg ≠ [] → Pth (ofL p) (bg.headD 0) (len - bg.length + 1) (lastZ bg)
  | 0, bg, _, _, _, _, _, h => absurd rfl h
  | f + 1, bg, hne, hl, h1, h2, h3, h => by
    have h0 : 0 ≤ p.n := (namedB_n hi.named).1
    rw [extF] at h
    by_cases e : bg.length = len
    · rw [if_pos e] at h
      have he : edB p (lastZ bg) (bg.headD 0) = true := by
        cases q : edB p (lastZ bg) (bg.headD 0) with
        | true => rfl
        | false => rw [q] at h; exact absurd rfl h
      rw [e, Nat.sub_self]
      exact (edB_row h0 (by omega) h3 (by omega)).1 he
    · rw [if_neg e] at h
      obtain ⟨k, hk, hF⟩ := firstN_some h
      by_cases hc : extC p bg k = true
      · rw [if_pos hc] at hF
        unfold extC at hc
        rw [Bool.and_eq_true] at hc
        have hb := (edB_row h0 (by omega) h3 (by omega)).1 hc.1
        have ih := ext_sound hi len f (bg ++ [bg.headD 0 + 1 + (k : Int)]) (by simp) (by rw [List.length_append]; simp; omega) (by rw [head_snoc hne]; exact h1) (by rw [head_snoc hne, lastZ_snoc]; omega) (by rw [lastZ_snoc]; omega) hF
        rw [head_snoc hne, lastZ_snoc, List.length_append, List.length_singleton] at ih
        have e2 : len - bg.length + 1 = (len - (bg.length + 1)) + 2 := by omega
        rw [e2]
        exact ⟨_, hb, by omega, ih⟩
      · rw [if_neg hc] at hF; exact absurd rfl hF
theorem back_val {g : List (List Int)} (hg : GOk g) {fr most : Int} (hf1 : 1 ≤ fr) (hf2 : fr < (g.length : Int)) {d : Nat} (hd : nthZ (backT g fr most) fr = (d : Int)) {a : Int} (a1 : fr ≤ a) (a2 : a < (g.length : Int)) {j : Nat} (j1 : 1 ≤ j) (j2 : j ≤ d) :
    nthZ (backT g fr most) a = (j : Int) ↔ Pth g fr j a ∧ ∀ i : Nat, i < j → ¬ Pth g fr i a := by
  have h := bIter_ok (most := most) hg hf1 hf2 most.toNat (bInit_ok g fr)
  have hr := h.rng fr (Int.le_refl _) hf2
  have hd2 : nthZ (bIter (intoL g fr) fr most most.toNat (bInit g.length fr)).back fr = (d : Int) := hd
  exact h.val a a1 a2 j j1 (by omega)
theorem find_first {q : Int → Bool} : ∀ {l : List Int}, l.Pairwise (· < ·) → ∀ {b : Int}, l.find? q = some b → ∀ c ∈ l, c < b → q c = false
  | [], _, _, h, _, _, _ => by cases h
  | x :: t, hp, b, h, c, hc, hlt => by
    rw [List.pairwise_cons] at hp
    cases hx : q x with
    | true =>
      rw [List.find?_cons_of_pos hx] at h
      injection h with h; subst h
      rcases List.mem_cons.1 hc with e | e
      · omega
      · have := hp.1 c e; omega
    | false =>
      rw [List.find?_cons_of_neg (by rw [hx]; decide)] at h
      rcases List.mem_cons.1 hc with e | e
      · subst e; exact hx
      · exact find_first hp.2 h c e hlt
theorem row_sorted {p : GProg} (h0 : 0 ≤ p.n) {a : Int} (a0 : 0 ≤ a) (a1 : a ≤ p.n) : (rowZ (ofL p) a).Pairwise (· < ·) := by
  rw [of_row h0 a0 a1]; exact (comp_spec _).2
theorem ext_main {p : GProg} (hi : ProgIs p) {fr most : Int} (hf1 : 1 ≤ fr) (hf2 : fr ≤ p.n) (hm0 : 0 ≤ most) {d : Nat} (hd : nthZ (backT (ofL p) fr most) fr = (d : Int))
    (hmin : ∀ a : Int, 1 ≤ a → a ≤ p.n → ∀ j : Nat, Pth (ofL p) a j a → d ≤ j) : ∀ (k : Nat) (bg : List Int), bg.headD 0 = fr → bg ≠ [] → bg.length + k = d → nthZ (backT (ofL p) fr most) (lastZ bg) = (k : Int) + 1 → fr ≤ lastZ bg → lastZ bg ≤ p.n →
      (∀ b ∈ bg, 1 ≤ b ∧ ∃ i, i + 1 ≤ bg.length ∧ Wlk (ofL p) i b (lastZ bg)) → Wlk (ofL p) (bg.length - 1) fr (lastZ bg) → extF p d (k + 1) bg = bg ++ tailP (ofL p) fr (backT (ofL p) fr most) k (lastZ bg) := by
  have h0 : 0 ≤ p.n := (namedB_n hi.named).1
  have hl := of_len p
  have hg := of_ok hi h0 (namedB_n hi.named).2
  have hbk := back_ok (fr := fr) (most := most) hg hf1 (by omega) hm0
  have hcl : ∀ (b : Int) (m : Nat), 1 ≤ b → Wlk (ofL p) (m + 1) b b → d ≤ m + 1 := fun b m b1 hw => by
    obtain ⟨a, j, a1, a2, hj, hp⟩ := closed_pth hg b.toNat b b1 (Nat.le_refl _) m hw
    have := hmin a a1 (by omega) j hp
    omega
  intro k
  induction k with
  | zero =>
    intro bg hh hne hlen hb hx1 hx2 hmem hw
    rw [extF, if_pos (by omega)]
    have hfr := hbk.one _ hx1 (by omega) (by simpa using hb)
    rw [hh, (edB_row h0 (by omega) hx2 (by omega)).2 hfr, if_pos rfl, tailP, List.append_nil]
  | succ k ih =>
    intro bg hh hne hlen hb hx1 hx2 hmem hw
    have hpos := List.length_pos_iff.2 hne
    rw [extF, if_neg (by omega), hh]
    obtain ⟨b, hfind, hbr, hbf, hbN, hbv⟩ := find_next hg hbk hx1 (by omega) (k := k) (by omega)
    have hbi : fr + 1 + (((b - fr - 1).toNat : Nat) : Int) = b := by omega
    have hnot : ∀ j < (b - fr - 1).toNat, (if extC p bg j then extF p d (k + 1) (bg ++ [fr + 1 + (j : Int)]) else []) = [] := fun j hj => by
      by_cases hc : extC p bg j = true
      · rw [if_pos hc]
        refine Classical.byContradiction fun hF => ?_
        unfold extC at hc
        rw [Bool.and_eq_true, hh] at hc
        have hcr := (edB_row h0 (by omega) hx2 (by omega)).1 hc.1
        have hs := ext_sound hi d (k + 1) (bg ++ [fr + 1 + (j : Int)]) (by simp) (by rw [List.length_append]; simp; omega) (by rw [head_snoc hne, hh]; exact hf1) (by rw [head_snoc hne, lastZ_snoc, hh]; omega) (by rw [lastZ_snoc]; omega) hF
        rw [head_snoc hne, lastZ_snoc, List.length_append, List.length_singleton, hh, show d - (bg.length + 1) + 1 = k + 1 by omega] at hs
        have hv : nthZ (backT (ofL p) fr most) (fr + 1 + (j : Int)) = ((k + 1 : Nat) : Int) := (back_val hg hf1 (by omega) hd (by omega) (by omega) (by omega) (by omega)).2 ⟨hs, fun i hik hp => by
          cases i with
          | zero => exact hp
          | succ i =>
            have w1 := pth_wlk _ hp
            have w2 : Wlk (ofL p) (i + 2) (lastZ bg) fr := ⟨_, hcr, w1⟩
            have w3 := Wlk.app _ hw w2
            have := hcl fr (bg.length - 1 + (i + 1)) hf1 (by rw [show bg.length - 1 + (i + 1) + 1 = bg.length - 1 + (i + 2) by omega]; exact w3)
            omega⟩
        have hq := find_first (row_sorted h0 (by omega) hx2) hfind (fr + 1 + (j : Int)) hcr (by omega)
        rw [Bool.and_eq_false_iff] at hq
        rcases hq with q | q
        · have : fr < fr + 1 + (j : Int) := by omega
          rw [decide_eq_true this] at q; cases q
        · rw [decide_eq_false_iff_not] at q
          exact q (by rw [hv]; omega)
      · rw [if_neg hc]
    have hbnm : b ∉ bg := fun hm => by
      obtain ⟨b1, i, hil, hwi⟩ := hmem b hm
      have := hcl b i b1 ((wlk_snoc i).2 ⟨_, hwi, hbr⟩)
      omega
    have hcb : extC p bg (b - fr - 1).toNat = true := by
      unfold extC
      rw [hh, hbi, (edB_row h0 (by omega) hx2 (by omega)).2 hbr, decide_eq_true hbnm]; rfl
    have hih := ih (bg ++ [b]) (by rw [head_snoc hne, hh]) (by simp) (by rw [List.length_append]; simp; omega) (by rw [lastZ_snoc]; exact hbv) (by rw [lastZ_snoc]; omega) (by rw [lastZ_snoc]; omega) (fun c hc => by
      rw [lastZ_snoc, List.length_append, List.length_singleton]
      rcases List.mem_append.1 hc with q | q
      · obtain ⟨c1, i, hil, hwi⟩ := hmem c q
        exact ⟨c1, i + 1, by omega, (wlk_snoc i).2 ⟨_, hwi, hbr⟩⟩
      · have : c = b := by simpa using q
        subst this
        exact ⟨by omega, 0, by omega, rfl⟩) (by
      rw [lastZ_snoc, List.length_append, List.length_singleton]
      obtain ⟨m, hm⟩ : ∃ m, bg.length = m + 1 := ⟨bg.length - 1, by omega⟩
      rw [hm] at hw ⊢
      exact (wlk_snoc m).2 ⟨_, hw, hbr⟩)
    rw [lastZ_snoc] at hih
    have hval : (if extC p bg (b - fr - 1).toNat then extF p d (k + 1) (bg ++ [fr + 1 + (((b - fr - 1).toNat : Nat) : Int)]) else []) = bg ++ tailP (ofL p) fr (backT (ofL p) fr most) (k + 1) (lastZ bg) := by
      rw [if_pos hcb, hbi, hih, tailP, hfind, List.append_assoc]; rfl
    rw [firstN_hit (F := fun j => if extC p bg j then extF p d (k + 1) (bg ++ [fr + 1 + (j : Int)]) else []) hnot (by rw [hval]; simp [hne]) (by omega)]
    exact hval
theorem cyc_first {g : List (List Int)} (hg : GOk g) {N : Nat} (hN : g.length = N + 1) : ∀ k : Nat, k ≤ N → cycT g N k = [] ∨ ∃ fr most : Int, 1 ≤ fr ∧ fr ≤ (k : Int) ∧ 0 ≤ most ∧ cycT g N k = aroundT g fr most ∧ cycT g N k ≠ [] ∧ ∀ a : Int, 1 ≤ a → a < fr → ∀ j : Nat, Pth g a j a → (cycT g N k).length < j
  | 0, _ => .inl rfl
  | k + 1, hk => by
    have ih := cyc_first hg hN k (by omega)
    have hok := cyc_ok hg hN k (by omega)
    rw [cycT_succ]
    generalize cycT g N k = best at *
    unfold cycStep
    obtain ⟨m, hm⟩ : ∃ m, m = (if 0 < best.length then (best.length : Int) - 1 else (N : Int)) := ⟨_, rfl⟩
    rw [← hm]
    have hm0 : 0 ≤ m := by rw [hm]; split <;> omega
    by_cases hpos : 0 < (aroundT g ((k : Int) + 1) m).length
    · rw [if_pos hpos]
      right
      have hlm : ((aroundT g ((k : Int) + 1) m).length : Int) ≤ m := by
        rcases around_ok (fr := (k : Int) + 1) (most := m) hg (by omega) (by omega) hm0 with ⟨h1, -⟩ | ⟨-, -, h3⟩
        · rw [h1] at hpos; simp at hpos
        · exact h3
      refine ⟨(k : Int) + 1, m, by omega, by omega, hm0, rfl, List.length_pos_iff.1 hpos, fun a a1 a2 j hp => ?_⟩
      rcases hok with ⟨h1, h2⟩ | ⟨h1, -, h3⟩
      · exact absurd hp (h2 a a1 (by omega) j)
      · have := h3 a a1 (by omega) j hp
        have hb := List.length_pos_iff.2 h1
        rw [if_pos hb] at hm
        omega
    · rw [if_neg hpos]
      rcases ih with h | ⟨fr, most, h1, h2, h3, h4, h5, h6⟩
      · exact .inl h
      · exact .inr ⟨fr, most, h1, by omega, h3, h4, h5, h6⟩
theorem cyc_ref {p : GProg} (hi : ProgIs p) : cycL p = refCyc p := by
  have h0 : 0 ≤ p.n := (namedB_n hi.named).1
  have hl := of_len p
  have hg := of_ok hi h0 (namedB_n hi.named).2
  obtain ⟨N, hN⟩ : ∃ N, N = p.n.toNat := ⟨_, rfl⟩
  rw [← hN] at hl
  have hok := cyc_ok hg hl N (Nat.le_refl _)
  have hfi := cyc_first hg hl N (Nat.le_refl _)
  have hc : cycL p = cycT (ofL p) N N := by unfold cycL; rw [hN]
  rw [hc]
  unfold refCyc
  rw [← hN]
  have hsnd : ∀ (k a : Nat), a < N → extF p (k + 1) (k + 1) [(a : Int) + 1] ≠ [] → Pth (ofL p) ((a : Int) + 1) (k + 1) ((a : Int) + 1) := fun k a ha h => by
    have := ext_sound hi (k + 1) (k + 1) [(a : Int) + 1] (by simp) (by simp) (by show 1 ≤ (a : Int) + 1; omega) (Int.le_refl _) (by show (a : Int) + 1 ≤ p.n; omega) h
    exact this
  rcases hok with ⟨h1, h2⟩ | ⟨h1, -, h3⟩
  · rw [h1]
    symm
    refine firstN_none fun k hk => firstN_none fun a ha => ?_
    exact Classical.byContradiction fun q => h2 _ (by omega) (by omega) _ (hsnd k a ha q)
  · rcases hfi with h | ⟨fr, most, f1, f2, hm0, he, -, hf⟩
    · exact absurd h h1
    · rcases around_ok (fr := fr) (most := most) hg f1 (by omega) hm0 with ⟨q, -⟩ | ⟨q, hcy, -⟩
      · rw [he, q] at h1; exact absurd rfl h1
      · obtain ⟨d, hd⟩ : ∃ d, d = (cycT (ofL p) N N).length := ⟨_, rfl⟩
        have hbk := back_ok (fr := fr) (most := most) hg f1 (by omega) hm0
        have hne : nthZ (backT (ofL p) fr most) fr ≠ 0 := fun e => by
          unfold aroundT at q; rw [if_pos e] at q; exact q rfl
        obtain ⟨j, hj, -, hpj, -⟩ := hbk.yes hne
        have haq : aroundT (ofL p) fr most = fr :: tailP (ofL p) fr (backT (ofL p) fr most) (j - 1) fr := by
          unfold aroundT
          rw [if_neg hne, show (nthZ (backT (ofL p) fr most) fr - 1).toNat = j - 1 by omega]
        have j1 : 1 ≤ j := by
          rcases Nat.eq_zero_or_pos j with z | z
          · subst z; exact hpj.elim
          · exact z
        obtain ⟨i1, -⟩ := tail_ok hg hbk (j - 1) fr (Int.le_refl _) (by omega) (by omega)
        have hdj : d = j := by rw [hd, he, haq, List.length_cons, i1]; omega
        rw [← he] at hcy
        have hdN : d ≤ N := by
          have := nodup_le (N + 1) (0 :: cycT (ofL p) N N) (List.nodup_cons.2 ⟨fun hm => by have := hcy.rng 0 hm; omega, hcy.nod⟩) (fun k hk => by
            rcases List.mem_cons.1 hk with rfl | hk
            · omega
            · have := hcy.rng k hk; omega)
          rw [List.length_cons, ← hd] at this
          omega
        have hmin : ∀ a : Int, 1 ≤ a → a ≤ p.n → ∀ i : Nat, Pth (ofL p) a i a → d ≤ i := fun a a1 a2 i hp => by
          rw [hd]; exact h3 a a1 (by omega) i hp
        have hm := ext_main hi f1 (by omega) hm0 (d := d) (by rw [hdj]; exact hj) hmin (d - 1) [fr] rfl (by simp) (by show 1 + (d - 1) = d; omega) (by show nthZ _ fr = _; omega) (Int.le_refl _) (by show fr ≤ p.n; omega) (fun b hb => by
          have : b = fr := by simpa using hb
          subst this
          exact ⟨f1, 0, by simp, rfl⟩) rfl
        have hlz : lastZ [fr] = fr := rfl
        rw [hlz, show d - 1 + 1 = d by omega] at hm
        have hbest : cycT (ofL p) N N = extF p d d [fr] := by rw [he, haq, hm, ← hdj]; rfl
        symm
        have hin : firstN (fun a => extF p (d - 1 + 1) (d - 1 + 1) [(a : Int) + 1]) N = cycT (ofL p) N N := by
          rw [show d - 1 + 1 = d by omega]
          have hfa : (((fr - 1).toNat : Nat) : Int) + 1 = fr := by omega
          rw [firstN_hit (F := fun a => extF p d d [(a : Int) + 1]) (k := (fr - 1).toNat) (fun a ha => ?_) (by rw [hfa, ← hbest]; exact h1) (by omega), hfa, ← hbest]
          refine Classical.byContradiction fun q2 => ?_
          have hp := hsnd (d - 1) a (by omega) (by rw [show d - 1 + 1 = d by omega]; exact q2)
          have := hf _ (by omega) (by omega) _ hp
          omega
        rw [firstN_hit (F := fun k => firstN (fun a => extF p (k + 1) (k + 1) [(a : Int) + 1]) N) (k := d - 1) (fun k hk => ?_) (by rw [hin]; exact h1) (by omega)]
        · exact hin
        · refine firstN_none fun a ha => Classical.byContradiction fun q2 => ?_
          have := hmin _ (by omega) (by omega) _ (hsnd k a ha q2)
          omega
end Go.Proofs.Ytbfbkpoakmnlpaa
