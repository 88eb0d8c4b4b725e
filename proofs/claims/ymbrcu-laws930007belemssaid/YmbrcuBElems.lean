/-
  THE WALK OF LawS930007BElems.
-/
import Derived.Test.YmbrcuBMemb
import Derived.Test.YmbrcuFrom
namespace Go.Proofs.Ymbrcu.BLaws
open Go.RowKit Go.Proofs.Ymbrcu
set_option linter.unusedVariables false

/-- The first k of h without those that are j. -/
def lst (h : Nat → Nat) (j : Int) : Nat → List Nat
  | 0 => []
  | k + 1 => lst h j k ++ if (h k : Int) = j then [] else [h k]
theorem lst_le (h : Nat → Nat) (j : Int) (k : Nat) : (lst h j k).length ≤ k := by
  induction k with
  | zero => exact Nat.le_refl _
  | succ k ih =>
    simp only [lst, List.length_append]
    split
    · simp; omega
    · simp; omega
theorem lst_mem (h : Nat → Nat) (j : Int) (k x : Nat) : x ∈ lst h j k ↔ (∃ t, t < k ∧ h t = x) ∧ (x : Int) ≠ j := by
  induction k with
  | zero => simp [lst]
  | succ k ih =>
    simp only [lst, List.mem_append, ih]
    constructor
    · rintro (⟨⟨t, ht, e⟩, hx⟩ | hx)
      · exact ⟨⟨t, by omega, e⟩, hx⟩
      · split at hx
        · cases hx
        · rename_i hne
          simp at hx
          exact ⟨⟨k, by omega, hx.symm⟩, by rw [hx]; exact hne⟩
    · rintro ⟨⟨t, ht, e⟩, hx⟩
      by_cases hk : t = k
      · subst hk
        refine .inr ?_
        rw [if_neg (by rw [e]; exact hx), e]
        simp
      · exact .inl ⟨⟨t, by omega, e⟩, hx⟩
theorem lst_len (h : Nat → Nat) (j : Int) (k : Nat) : decide ((lst h j k).length < k) = occ h k j := by
  induction k with
  | zero => rfl
  | succ k ih =>
    rw [occ_succ, ← ih]
    have := lst_le h j k
    simp only [lst, List.length_append]
    by_cases e : (h k : Int) = j
    · rw [if_pos e, decide_eq_true e, Bool.or_true]
      exact decide_eq_true (by simp; omega)
    · rw [if_neg e, decide_eq_false e, Bool.or_false, decide_eq_decide]
      simp
theorem lst_keep {h : Nat → Nat} {j : Int} {k : Nat} (e : (h k : Int) ≠ j) : lst h j (k + 1) = lst h j k ++ [h k] := by
  simp only [lst]; rw [if_neg e]
theorem lst_drop {h : Nat → Nat} {j : Int} {k : Nat} (e : (h k : Int) = j) : lst h j (k + 1) = lst h j k := by
  simp only [lst]; rw [if_pos e, List.append_nil]

/-- A list read at a place; 0 behind it. -/
def rd (L : List Nat) : Nat → Nat := fun i => L.getD i 0
theorem rd_map (L : List Nat) (c : Nat → Value) : ((List.range L.length).map fun i => c (rd L i)) = L.map c := by
  apply List.ext_getElem?
  intro i
  by_cases h : i < L.length
  · simp [rd, h]
  · simp [h]
theorem rd_lt {L : List Nat} {B : Nat} (hB : 0 < B) (h : ∀ x ∈ L, x < B) (i : Nat) : rd L i < B := by
  unfold rd
  by_cases e : i < L.length
  · rw [List.getD_eq_getElem?_getD, List.getElem?_eq_getElem e]
    exact h _ (List.getElem_mem e)
  · rw [List.getD_eq_getElem?_getD, List.getElem?_eq_none (by omega)]
    exact hB
theorem occ_rd (L : List Nat) (q : Int) : occ (rd L) L.length q = true ↔ ∃ x, x ∈ L ∧ (x : Int) = q := by
  rw [occ_iff]
  constructor
  · rintro ⟨i, hi, e⟩
    refine ⟨rd L i, ?_, e⟩
    unfold rd
    rw [List.getD_eq_getElem?_getD, List.getElem?_eq_getElem hi]
    exact List.getElem_mem hi
  · rintro ⟨x, hx, e⟩
    obtain ⟨i, hi, hg⟩ := List.getElem_of_mem hx
    refine ⟨i, hi, ?_⟩
    unfold rd
    rw [List.getD_eq_getElem?_getD, List.getElem?_eq_getElem hi, ← e, ← hg]
    rfl

/-- The cleared set and the set of the rest have the same members. -/
theorem same_mem {h : Nat → Nat} {j : Int} {n : Nat} (hh : ∀ i, h i < 1048576) {F : Nat → Nat} (hF : ∀ x : Nat, mem F x = (mem (fe (fun i => (h i : Int)) n) x && decide ((x : Int) ≠ j))) (q : Int) :
    memI F q = memI (fe (fun i => (rd (lst h j n) i : Int)) (lst h j n).length) q := by
  have hb : ∀ i, rd (lst h j n) i < 1048576 := rd_lt (by omega) fun x hx => by
    obtain ⟨⟨t, _, e⟩, _⟩ := (lst_mem h j n x).1 hx
    rw [← e]
    exact hh t
  rw [memI_fe_nat hb]
  by_cases hq : q < 0
  · rw [memI_neg F hq]
    symm
    rw [Bool.eq_false_iff]
    intro c
    obtain ⟨x, _, e⟩ := (occ_rd _ _).1 c
    omega
  · obtain ⟨x, rfl⟩ : ∃ x : Nat, q = (x : Int) := ⟨q.toNat, by omega⟩
    rw [memI_nat, hF, ← memI_nat, memI_fe_nat hh, Bool.eq_iff_iff, occ_rd, Bool.and_eq_true, occ_iff, decide_eq_true_iff]
    constructor
    · rintro ⟨⟨t, ht, e⟩, hx⟩
      exact ⟨x, (lst_mem h j n x).2 ⟨⟨t, ht, by omega⟩, hx⟩, rfl⟩
    · rintro ⟨y, hy, e⟩
      obtain ⟨⟨t, ht, e2⟩, hx⟩ := (lst_mem h j n y).1 hy
      exact ⟨⟨t, ht, by omega⟩, by rw [← e]; exact hx⟩

/-- 'make([]T, 0, n)'. -/
theorem wpList_make0 {P : Program} (w : World) {ops : Array Oper} {rest : List Oper} {o : Oper} {a : Act} {Q : Exit → Act → World → Prop}
    (hg : o.guard = none) (l c : Operand) (t : TypeId) (hop : o.op = Op.makeSlice t l c) (e : TypeId) (k : IntKind) (h1 : P.underlying t = some (.slice e))
    (h2 : (P.info? e).map (fun i => (i.zero, i.size, i.bytes)) = some (some (.int k 0), 1, 8)) (kl kc : IntKind) (C : Int) (n : Nat) (hl : a.eval l = .int kl 0) (hc : a.eval c = .int kc C) (hC : C = (n : Int)) (hn : n ≤ 17592186044416)
    (H : Nat) (hH : w.heap.size = H)
    (hK : ∀ w1, Own e k w1 H (.slice (some ⟨H, 0, none⟩) 0 n) 0 (fun _ => 0) → Below H w w1 → w1.heap.size = H + 1 → wpList P ops Q rest (a.put o.dst (.slice (some ⟨H, 0, none⟩) 0 n)) w1) :
    wpList P ops Q (o :: rest) a w := by
  subst hH
  refine wpList_plain hg fun K hK' => ?_
  subst hC
  obtain ⟨i0, hi, hz0, hz1, hz2⟩ := info_parts h2
  have hr := run_make (P := P) w t e i0 (.int k 0) h1 hi hz0 kl kc 0 n (by omega) (by omega) (by rw [hz2]; omega) (by omega)
  simp only [Int.toNat_natCast, Int.toNat_zero, hz1] at hr
  unfold Oper.wp
  simp [execOp, hop, hl, hc, hr, Result.andThen]
  refine hK' _ _ (hK _ (Own.less (n := n) (Own.made ?_) (Nat.zero_le _)) ((Below.refl _ _).alloc (Nat.le_refl _) _) (by simp))
  have h := World.ownsRow_lit (base := w.heap.size) (e := e) (size := 1) w (madeCells (Value.int k 0).cells (n * 1)) n (Nat.le_refl _) (by unfold maxLen; omega) (size_madeCells _ _)
  simp only [Nat.mul_one] at h ⊢
  exact h

theorem own_of_list {e : TypeId} {k : IntKind} {w : World} {base : Nat} {v : Value} {L : List Nat} (h : w.ownsRow base e 1 v L.length (L.map fun x => Value.int k (x : Nat))) : Own e k w base v L.length (rd L) := by
  unfold Own
  rw [rd_map L fun x => Value.int k (x : Nat)]
  exact h

set_option maxRecDepth 100000 in
set_option maxHeartbeats 2000000 in
theorem belems (a : Option Addr) (n cap : Nat) (f : Nat → Nat) (i : Int) (pick : Bool) (w : World) (hr : Reads .u32 w a n f) (hf : ∀ i, f i < 4294967296) (hn : n ≤ cap) (hm : cap ≤ maxLen)
    (h1 : -9223372036854775808 ≤ i) (h2 : i ≤ 9223372036854775807) :
    Calls Ycum.prog 7 #[.slice a n cap, .int .i64 i, .bool pick] w fun e w' => e = .returned (.bool true) ∧ Below w.heap.size w w' := by
  unfold maxLen at hm
  by_cases hbig : 1024 < n
  · go_enter Ycum.func7, Ycum.ntmps7
    go_wp2_with fail
    go_ret
    exact ⟨rfl, Below.refl _ _⟩
  obtain ⟨i0, hi0, hz0, hz1, hz2⟩ := info_parts info_int
  have HR : Hid (Reads .u32 w a n f) := hr
  have HF : Hid (∀ i, f i < 4294967296) := hf
  clear hr hf
  obtain ⟨h, hh⟩ : ∃ h : Nat → Nat, h = fun i => f i * 37 % 1048576 := ⟨_, rfl⟩
  have HH : Hid (∀ i, (f i : Int) * 37 % 1048576 = (h i : Int)) := fun i => by rw [hh]; simp
  have HL : Hid (∀ i, h i < 1048576) := fun i => by rw [hh]; exact Nat.mod_lt _ (by omega)
  clear hh
  obtain ⟨g, hg⟩ : ∃ g, w.heap.size = g := ⟨_, rfl⟩
  have HG : Hid (w.heap.size = g) := hg
  rw [hg]
  clear hg
  go_enter Ycum.func7, Ycum.ntmps7
  go_wp2_with (first | (at_make; refine wpList_make _ rfl _ _ 34 rfl 3 .i64 Ycum.underlying34 info_int _ _ _ _ n rfl rfl (by omega) (by omega) (by omega) g HG.out ?_))
  intro w1 o1 b1 _ z1
  have O1 : Hid (Own _ _ _ _ _ _ _) := o1
  have Z1 : Hid (w1.heap.size = g + 1) := z1
  clear o1 z1
  go_wp2_with fail
  go_loopw [8] (fun t wr => ∃ k : Nat, k ≤ n ∧ t = .int .i64 k ∧ Own 3 .i64 wr g (.slice (some ⟨g, 0, none⟩) n n) n (upto h k) ∧ Below g w wr ∧ wr.heap.size = g + 1) (fun t _ => n - (intOf t).toNat)
  case atStart => exact ⟨0, by omega, rfl, by rw [upto_zero]; exact O1.out, b1, Z1.out⟩
  case round =>
    clear O1 b1 Z1
    obtain ⟨k, hk, rfl, o1, hb, hs⟩ := hrel
    have HS : Hid (wr.heap.size = g + 1) := hs
    clear hs
    by_cases hlt : k < n
    · obtain ⟨b, off, rfl, hc⟩ := HR.out k hlt
      have hbg : b < g := by rw [← HG.out]; exact World.block_lt_of_cell? w _ hc
      have c0 : wr.cell? ⟨b, off + k, none⟩ = some (.int .u32 (f k)) := (hb.cell (p := ⟨b, off + k, none⟩) hbg).trans hc
      have c1 := o1.cell k (by omega)
      have f1 := o1.frozen k
      have R1 : Hid (Own _ _ _ _ _ _ _) := o1.set k (h k)
      have R3 : Hid (Below _ _ _) := hb.setCell (p := ⟨g, k, none⟩) (Nat.le_refl _) (.int .i64 (h k))
      have HU : Hid (upd (upto h k) k (h k) = upto h (k + 1)) := upto_succ h k
      have hfk := HF.out k
      have hy := HH.out k
      have hyl := HL.out k
      generalize h k = y at *
      clear o1 hb hc
      go_wp2_with fail
      go_roundw
      case rel => exact ⟨k + 1, by omega, by go_num, by rw [← HU.out]; exact R1.out, R3.out, by simp [World.setCell]; exact HS.out⟩
      case measure => simp [intOf]; omega
    · obtain rfl : k = n := by omega
      have XA : Hid (Own _ _ _ _ _ _ h) := o1.congr fun i hi => by unfold upto; rw [if_pos hi]
      have BA : Hid (Below g w wr) := hb
      clear o1 hb
      go_upto_region 8 with fail
      go_cut [43] (fun t wc => ∃ c : Bool, t = .bool c ∧ (c = true → 0 < k) ∧ wc = wr)
      case first =>
        cases pick
        · go_wp2_with fail
          go_meet
          case rel => exact ⟨false, rfl, (fun h => by cases h), rfl⟩
        · go_wp2_with fail
          go_meet
          case rel => exact ⟨decide (0 < k), rfl, fun h => of_decide_eq_true h, rfl⟩
      case rest =>
        obtain ⟨c, rfl, hc, rfl⟩ := hcut
        go_upto_if 43 with fail
        go_cut [1] (fun t wd => ∃ j : Int, t = .int .i64 j ∧ -9223372036854775808 ≤ j ∧ j ≤ 9223372036854775807 ∧ wd = wc)
        case first =>
          cases c
          · go_wp2_with fail
            go_meet
            case rel => exact ⟨i, rfl, h1, h2, rfl⟩
          · have hk0 : 0 < k := hc rfl
            obtain ⟨u, hu⟩ : ∃ u : Nat, IntKind.u64.wrap i = (u : Int) := ⟨(i % 18446744073709551616).toNat, by rw [IntKind.wrap_u64]; omega⟩
            obtain ⟨z, hz⟩ : ∃ z : Nat, (u : Int) % (k : Int) = (z : Int) := ⟨u % k, by simp⟩
            have hzl : z < k := by have := Int.emod_lt_of_pos (u : Int) (b := (k : Int)) (by omega); omega
            have cz := XA.out.cell z hzl
            have hzy := HL.out z
            clear hc
            generalize h z = y at *
            go_wp2_with fail
            go_meet
            case rel => exact ⟨y, rfl, by omega, by omega, rfl⟩
        case rest =>
          obtain ⟨j, rfl, j1, j2, rfl⟩ := hcut
          clear h1 h2 hc
          go_wp2_with (first | (at_make; refine wpList_make0 _ rfl _ _ 34 rfl 3 .i64 Ycum.underlying34 info_int _ _ _ k rfl rfl (by omega) (by omega) (g + 1) HS.out ?_))
          intro w2 o2 b2 z2
          have O2 : Hid (Own _ _ _ _ _ _ _) := o2
          have B2 : Hid (Below (g + 1) wc w2) := b2
          have Z2 : Hid (g + 1 ≤ w2.heap.size) := (by omega : g + 1 ≤ w2.heap.size)
          clear o2 b2 z2
          go_wp2_with fail
          go_loopw [9, 10] (fun s t wq => ∃ r : Nat, r ≤ k ∧ t = .int .i64 r ∧ wq.ownsRow (g + 1) 3 1 s (lst h j r).length ((lst h j r).map fun x => Value.int .i64 (x : Nat)) ∧ Below (g + 1) wc wq ∧ g + 1 ≤ wq.heap.size) (fun _ t _ => k - (intOf t).toNat)
          case atStart => exact ⟨0, by omega, rfl, O2.out, B2.out, Z2.out⟩
          case round =>
            clear O2 B2 Z2
            obtain ⟨r, hrk, rfl, o2, b2, z2⟩ := hrel
            have O2 : Hid (World.ownsRow wr _ _ _ _ _ _) := o2
            have B2 : Hid (Below (g + 1) wc wr) := b2
            have hll := lst_le h j r
            clear o2 b2
            by_cases hlt : r < k
            · have cx : wr.cell? ⟨g, r, none⟩ = some (.int .i64 (h r)) := (B2.out.cell (p := ⟨g, r, none⟩) (Nat.lt_succ_self g)).trans (XA.out.cell r hlt)
              have hyl := HL.out r
              by_cases e : (h r : Int) = j
              · have HE : Hid (lst h j (r + 1) = lst h j r) := lst_drop e
                have e1 : ((h r : Int) == j) = true := beq_iff_eq.2 e
                have e2 : ((h r : Int) != j) = false := by rw [bne, e1]; rfl
                clear e
                go_wp2_with fail
                go_roundw
                case rel => exact ⟨r + 1, by omega, by go_num, by rw [HE.out]; exact O2.out, B2.out, z2⟩
                case measure => simp [intOf]; omega
              · have HE : Hid (lst h j (r + 1) = lst h j r ++ [h r]) := lst_keep e
                have e1 : ((h r : Int) == j) = false := beq_eq_false_iff_ne.2 e
                have e2 : ((h r : Int) != j) = true := by rw [bne, e1]; rfl
                clear e
                generalize h r = y at *
                go_wp2_with (first | (at_builtin; refine wpList_append_lies _ rfl _ _ 34 rfl (g + 1) 3 i0 (.int .i64 0) 1 8 Ycum.underlying34 hi0 hz0 hz1 hz2 rfl (by omega) _ (lst h j r).length _ rfl (World.ownsRow.alloc O2.out _) ⟨wr.heap.size, 0, none⟩ 1 1 [.int .i64 y] rfl rfl (cell_one_new _ _ _) (by intro u hu; simp at hu; subst hu; rfl) (by omega) (by unfold maxLen; omega) (by omega) (by simp; omega) (wr.heap.size + 1) (by simp) ?_))
                intro g2 cap2 w4 hown hgrow hat hlt2
                have L1 : Hid (Below (g + 1) wc w4) := (B2.out.alloc z2 _).trans (Below.of_grown hgrow (by simp; omega) fun b hb => (World.ownsRow.lt O2.out b hb).1)
                have z4 : g + 1 ≤ w4.heap.size := Nat.le_trans (by simp; omega) hgrow.size
                have O4 : Hid (World.ownsRow w4 _ _ _ _ _ _) := hown
                clear hown hgrow hat
                go_wp2_with fail
                go_roundw
                case rel => exact ⟨r + 1, by omega, by go_num, by rw [HE.out, List.length_append, List.map_append]; exact O4.out, L1.out, z4⟩
                case measure => simp [intOf]; omega
            · obtain rfl : r = k := by omega
              have o3 := own_of_list O2.out
              obtain ⟨a9, c9, rfl, r9, _, _, _⟩ := o3.slice
              have R9 : Hid (Reads .i64 wr a9 (lst h j r).length (rd (lst h j r))) := r9
              have BW : Hid (Below g w wr) := BA.out.trans (B2.out.mono (Nat.le_succ _))
              have RX : Hid (Reads .i64 wr (some ⟨g, 0, none⟩) r h) := XA.out.reads.below (by rw [HS.out]; exact B2.out)
              have MG : Hid (memI (fe (fun i => (h i : Int)) r) j = occ h r j) := memI_fe_nat HL.out j
              have SM : Hid (∀ F : Nat → Nat, (∀ x : Nat, mem F x = (mem (fe (fun i => (h i : Int)) r) x && decide ((x : Int) ≠ j))) → ∀ q, memI F q = memI (fe (fun i => (rd (lst h j r) i : Int)) (lst h j r).length) q) := fun F hF q => same_mem HL.out hF q
              have HB : Hid (∀ i, rd (lst h j r) i < 1048576) := rd_lt (by omega) fun x hx => by
                obtain ⟨⟨t, _, e⟩, _⟩ := (lst_mem h j r x).1 hx
                rw [← e]
                exact HL.out t
              have hlen := lst_len h j r
              clear o3 r9 O2 B2 XA BA
              generalize (lst h j r).length = m at *
              generalize rd (lst h j r) = y at *
              generalize occ h r j = G at *
              have hlen' : decide ((m : Int) < (r : Int)) = G := by rw [← hlen, decide_eq_decide]; omega
              have C1 : Hid _ := from_ok (cap := r) RX.out.toI (by unfold maxLen; omega) (fun i _ => inR_nat (HL.out i))
              have TF : Hid _ := fe_trimmed (fun i => (h i : Int)) r
              have hN := fn_le (fun i => (h i : Int)) r
              have TG : Hid _ := fe_trimmed (fun i => (y i : Int)) m
              have hM := fn_le (fun i => (y i : Int)) m
              cases G
              all_goals
                go_wp2_with fail
                refine Calls.mono C1.out ?_
                rintro e w5 ⟨p, v, rfl, b5, l5⟩
                have P5 : Hid (Bts w5 _ _ _ _ _) := b5
                have B5 : Hid (Below g w w5) := BW.out.trans (l5.mono (by omega))
                have z5 : g ≤ w5.heap.size := by have := l5.size; omega
                have C2 : Hid _ := from_ok (cap := c9) (R9.out.below l5).toI (by unfold maxLen; omega) (fun i _ => inR_nat (HB.out i))
                clear b5 l5
                go_wp2_with fail
                refine Calls.mono C2.out ?_
                rintro e w6 ⟨q, u, rfl, b6, l6⟩
                have Q6 : Hid (Bts w6 _ _ _ _ _) := b6
                have P6 : Hid (Bts w6 _ _ _ _ _) := P5.out.below l6 (Nat.le_refl _)
                have B6 : Hid (Below g w w6) := B5.out.trans (l6.mono (by omega))
                have AP : Hid (q ≠ p ∧ _) := apart P5.out b6
                have z6 : g ≤ w6.heap.size := by have := l6.size; omega
                clear b6 l6 P5 B5 C2
                go_wp2_with fail
                refine Calls.mono (clear_any P6.out (by omega) j2 TF.out MG.out) ?_
                rintro e w7 ⟨rfl, v7, M, F, hMn, ht, hme, b7, t7⟩
                have Q7 : Hid (Bts w7 _ _ _ _ _) := t7.other P6.out Q6.out AP.out.1 AP.out.2
                have B7 : Hid (Below g w w7) := B6.out.trans (t7.below P6.out (by omega) z6)
                have HE : Hid (eqB M F _ _ = true) := eqB_of_mem ht TG.out b7.zero Q7.out.zero b7.fit Q7.out.fit (SM.out F hme)
                obtain ⟨a7, k7, rfl, r7, _, _, _⟩ := b7.slice
                obtain ⟨a8, k8, rfl, r8, _, _, _⟩ := Q7.out.slice
                have cb := b7.cell
                have cc := Q7.out.cell
                have R7 : Hid (Reads .u64 w7 a7 M F) := r7
                have R8 : Hid (Reads .u64 w7 a8 _ _) := r8
                clear r7 r8 b7 t7 hme ht Q7 Q6 P6 B6 TF TG SM
                go_wp2_with fail
                go_quiet ((go_at_call 25; exact Calls.quiet_of (bsame_eq (((Still.refl _).drewN _).reads R7.out) (((Still.refl _).drewN _).reads R8.out) (by omega) HE.out)))
                go_wp2_with fail
                go_ret
                exact ⟨by simp, B7.out.trans ((Still.refl _).drewN _).below⟩

end Go.Proofs.Ymbrcu.BLaws
