/- The document's sorting. -/
import Derived.Test.YtclngmjfhlindaaMaT
namespace Go.Proofs.Ytclngmjfhlindaa.Ma
open Go.RowKit Go.Proofs.Ytclngmjfhlindaa.Sip
set_option linter.unusedVariables false
theorem flat_drop : ∀ (L : List Ent) (a : Nat), (L.flatMap entV).drop (a * 2) = (L.drop a).flatMap entV
  | [], a => by simp
  | x :: L, 0 => by simp
  | x :: L, a + 1 => by
    rw [show (a + 1) * 2 = a * 2 + 2 by omega, List.drop_succ_cons]
    show (entV x ++ L.flatMap entV).drop (a * 2 + 2) = _
    rw [show entV x = [.string (mk x.1), .int .i64 x.2] from rfl]
    simp only [List.cons_append, List.nil_append, List.drop_succ_cons]
    exact flat_drop L a
theorem flat_take : ∀ (L : List Ent) (a : Nat), (L.flatMap entV).take (a * 2) = (L.take a).flatMap entV
  | [], a => by simp
  | x :: L, 0 => by simp
  | x :: L, a + 1 => by
    rw [show (a + 1) * 2 = a * 2 + 2 by omega, List.take_succ_cons]
    show (entV x ++ L.flatMap entV).take (a * 2 + 2) = _
    rw [show entV x = [.string (mk x.1), .int .i64 x.2] from rfl, List.flatMap_cons, show entV x = [.string (mk x.1), .int .i64 x.2] from rfl]
    simp only [List.cons_append, List.nil_append, List.take_succ_cons]
    rw [flat_take L a]
theorem flat_one (L : List Ent) : ∀ u ∈ L.flatMap entV, u.oneCell' = true := by
  intro u hu
  obtain ⟨x, _, h⟩ := List.mem_flatMap.1 hu
  simp [entV] at h
  rcases h with rfl | rfl <;> rfl
theorem ins_len (L : List Ent) (e : Ent) : (insE L e).length = L.length + 1 := by
  have := (insE_perm L e).length_eq
  simpa using this
set_option maxRecDepth 100000 in
set_option maxHeartbeats 4000000 in
theorem refSorted_any (xs : List Ent) (v : Value) (w : World) (hv : Ents w v xs) (hN : xs.length ≤ 1000000) (hT : ∀ x ∈ xs, x.1.length ≤ 1000) :
    Calls Try.prog 20 #[v] w fun e w' => ∃ u, e = .returned u ∧ w'.ownsRow w.heap.size 42 2 u (insAll xs).length ((insAll xs).flatMap entV) ∧ Below w.heap.size w w' := by
  obtain ⟨i0, hi, hz0, hz1, hz2⟩ := info_parts infoE
  obtain ⟨A, c, rfl, hc, hr⟩ := hv
  have hb0 : Below w.heap.size w w := Below.refl _ _
  go_enter Try.func20, Try.ntmps20
  go_wp2
  have ho0 : (w.alloc (.cells #[] 42)).ownsRow w.heap.size 42 2 (.slice (some ⟨w.heap.size, 0, none⟩) 0 0) 0 (((xs.take 0).foldl insE []).flatMap entV) := World.ownsRow_lit w #[] 0 (Nat.le_refl _) (by unfold maxLen; omega) rfl
  have hb1 := hb0.alloc (Nat.le_refl _) (.cells #[] 42)
  generalize w.alloc (.cells #[] 42) = w0 at *
  generalize hg : w.heap.size = g at *
  go_loopw [3, 10] (fun uv iv wr => ∃ (k gb cap : Nat), k ≤ xs.length ∧ iv = .int .i64 k ∧ uv = .slice (some ⟨gb, 0, none⟩) k cap ∧ Hid (((xs.take k).foldl insE []).length = k) ∧ wr.ownsRow g 42 2 (.slice (some ⟨gb, 0, none⟩) k cap) k (((xs.take k).foldl insE []).flatMap entV) ∧ Below g w wr) (fun _ iv _ => xs.length - (intOf iv).toNat)
  case atStart => exact ⟨0, _, _, Nat.zero_le _, rfl, rfl, Lib.hid rfl, ho0, hb1⟩
  case round =>
    obtain ⟨k, gb, cap, hk, rfl, rfl, hlen, hown, hb⟩ := hrel
    by_cases c1 : k < xs.length
    · obtain ⟨b, o, rfl, hlt, hx⟩ := hr (by omega)
      obtain ⟨h1, h2⟩ := hx k xs[k] (List.getElem?_eq_getElem c1)
      have hc0 := (hb.cell (p := ⟨b, o + k * 2, none⟩) hlt).trans h1
      have hc1 := (hb.cell (p := ⟨b, o + k * 2 + 1, none⟩) hlt).trans h2
      have hxl := hT xs[k] (by simp)
      have hnx := Lib.hid (show (xs.take (k + 1)).foldl insE [] = insE ((xs.take k).foldl insE []) xs[k] by rw [List.take_succ_eq_append_getElem c1, List.foldl_append]; rfl)
      generalize xs[k] = x at *
      generalize (xs.take k).foldl insE [] = L at *
      clear h1 h2 hx
      go_wp2
      have hE := new_two wr (.string (mk x.1)) (.int .i64 x.2) 42
      obtain ⟨hE0, hE1⟩ := hE
      have hownE := hown.alloc (.cells #[.string (mk x.1), .int .i64 x.2] 42)
      have hgw := hb.size
      have hbE := hb.alloc (by omega) (.cells #[.string (mk x.1), .int .i64 x.2] 42)
      have hzE : wr.heap.size < (wr.alloc (.cells #[.string (mk x.1), .int .i64 x.2] 42)).heap.size := by simp
      have hgb := (hown.lt gb rfl)
      generalize wr.alloc (.cells #[.string (mk x.1), .int .i64 x.2] 42) = wE at *
      generalize wr.heap.size = q at *
      clear hown hb hc0 hc1
      have hLx : ∀ j (hj : j < L.length), wE.cell? ⟨gb, j * 2, none⟩ = some (.string (mk L[j].1)) := fun j hj => by
        rw [hownE.cellAt (j * 2) (by have := hlen.out; omega)]
        exact (flat_get L j hj).1
      go_loopg [6] (k + 1) (fun gk av wr => ∃ a : Nat, a ≤ k ∧ gk = k + 1 - a ∧ av = .int .i64 a ∧ Hid (∀ y ∈ L.take a, y.1 < x.1) ∧ ∃ d, wr = { wE with drawn := d })
      case atStart => exact ⟨0, Nat.zero_le _, rfl, rfl, Lib.hid (by simp), _, rfl⟩
      case round =>
        obtain ⟨a, ha, hgk, rfl, hlow, d, rfl⟩ := hrel
        have hlen' := hlen.out
        have hE0' : ({ wE with drawn := d } : World).cell? ⟨q, 0, none⟩ = some (.string (mk x.1)) := hE0
        have hE1' : ({ wE with drawn := d } : World).cell? ⟨q, 1, none⟩ = some (.int .i64 x.2) := hE1
        by_cases c2 : a < k
        · obtain ⟨y, hy⟩ : ∃ y, Hid (L[a]? = some y) := ⟨_, Lib.hid (List.getElem?_eq_getElem (by omega))⟩
          have hyL : L[a]'(by omega) = y := by have h := hy.out; rw [List.getElem?_eq_getElem (by omega)] at h; exact Option.some.inj h
          have hcell : ({ wE with drawn := d } : World).cell? ⟨gb, a * 2, none⟩ = some (.string (mk y.1)) := by rw [← hyL]; exact hLx a (by omega)
          have hbl := mk_lt y.1 x.1
          have c2' : (a : Int) < (k : Int) := by omega
          have z1 : (0 : Int) ≤ (a : Int) := by omega
          have hgk' := Lib.hid hgk
          by_cases c3 : y.1 < x.1
          · rw [decide_eq_true c3] at hbl
            have hsn := Lib.hid (show ∀ z ∈ L.take (a + 1), z.1 < x.1 from fun z hz => by
              rw [List.take_add_one, hy.out] at hz
              rcases List.mem_append.1 hz with h3 | h3
              · exact hlow.out z h3
              · have : z = y := by simpa using h3
                rw [this]; exact c3)
            clear c3 hgk hyL
            go_wp2
            go_quiet (fail)
            go_wp2
            go_roundg (k + 1 - (a + 1))
            case measure => have := hgk'.out; omega
            case rel => exact ⟨a + 1, by omega, rfl, by go_num, hsn, _, rfl⟩
          · rw [decide_eq_false c3] at hbl
            have hstop : Hid (a = L.length ∨ ∃ x1, L[a]? = some x1 ∧ ¬ x1.1 < x.1) := Lib.hid (.inr ⟨y, hy.out, c3⟩)
            clear c3 hgk hyL hy
            go_wp2
            go_quiet (fail)
            go_wp2
            have hins := Lib.hid (insE_at L x a hlow.out hstop.out)
            clear hstop hlow hLx
            generalize hwd : ({ wE with drawn := d } : World).drewN nq = wd at *
            have hE0d : wd.cell? ⟨q, 0, none⟩ = some (.string (mk x.1)) := by rw [← hwd]; exact hE0
            have hE1d : wd.cell? ⟨q, 1, none⟩ = some (.int .i64 x.2) := by rw [← hwd]; exact hE1
            have hownd : wd.ownsRow g 42 2 (.slice (some ⟨gb, 0, none⟩) k cap) k (L.flatMap entV) := by rw [← hwd]; exact hownE
            have hbd : Below g w wd := by rw [← hwd]; exact ⟨hbE.os, hbE.tape, hbE.output, hbE.size, hbE.block⟩
            have hzd : q < wd.heap.size := by rw [← hwd]; exact hzE
            have hcap : k ≤ cap := by
              rcases hownE.2 with ⟨h0, _⟩ | ⟨g', cap', cur, hv, _, _, h1, _⟩
              · cases h0
              · cases hv; exact h1
            have hak : (a : Int) ≤ (k : Int) := by omega
            have hac : (a : Int) ≤ (cap : Int) := by omega
            have h0a : (0 : Int) ≤ (a : Int) := by omega
            have hac2 : a ≤ cap := by omega
            have hbk := heap_alloc_new wd (Obj.cells #[.string (mk x.1), .int .i64 x.2] 42)
            have hnew : (wd.alloc (Obj.cells #[.string (mk x.1), .int .i64 x.2] 42)).ownsRow g 42 2 (.slice (some ⟨wd.heap.size, 0, none⟩) 1 1) 1 [.string (mk x.1), .int .i64 x.2] := World.ownsRow_lit wd #[.string (mk x.1), .int .i64 x.2] 1 (by have := hbd.size; omega) (by unfold maxLen; omega) rfl
            have hgb1 := hgb.1
            have hgbn : gb ≠ wd.heap.size := by omega
            have hbd1 := hbd.alloc (by omega) (Obj.cells #[.string (mk x.1), .int .i64 x.2] 42)
            have hgw2 : g ≤ wd.heap.size := by omega
            by_cases hca : cap = a
            · have hak2 : a = k := by omega
              subst hak2
              subst hca
              have hdrop : L.drop cap = [] := List.drop_of_length_le (by omega)
              have hownPre := (ownsRow_prefix hownd ha).alloc (Obj.cells #[.string (mk x.1), .int .i64 x.2] 42)
              rw [flat_take] at hownPre
              go_region_law (first
                | (refine step_append_own (by rfl) _ _ _ (by rfl) g 42 i0 _ 2 24 Try.underlying22 hi hz0 hz1 hz2 rfl (by omega) (.slice (some ⟨wd.heap.size, 0, none⟩) 1 1) 1 _ (by rfl) hnew.drew ⟨gb, 0, none⟩ 0 0 ([] : List Value) (by rfl) rfl (by intro j u hu; simp at hu) (by intro u hu; simp at hu) (by unfold maxLen; omega) (by omega) (by show g ≤ (wd.alloc _).heap.size; simp; omega) ?_; intro v38 w38 hown38 hgrow38; obtain ⟨g38, c38, rfl, hg38a, hg38b⟩ := hown38.form (by omega); have hpre := (hownPre.drew).kept hgrow38 (.inr (fun e => hgbn (Option.some.inj e))); have hbd2 := grow_low hbd1.drew (show g ≤ (wd.alloc _).heap.size by simp; omega) hgrow38 (fun j e => by cases e; omega))
                | (refine step_append_own (by rfl) _ _ _ (by rfl) g 42 i0 _ 2 24 Try.underlying22 hi hz0 hz1 hz2 rfl (by omega) (.slice (some ⟨gb, 0, none⟩) cap cap) cap _ (by rfl) hpre ⟨g38, 0, none⟩ (1 + 0) c38 _ (by rfl) hown38.1 (hown38.cells rfl) (by intro u hu; rcases List.mem_append.1 hu with h | h; (simp at h; rcases h with rfl | rfl <;> rfl); first | exact flat_one _ u h | (simp at h)) (by unfold maxLen; omega) (by omega) (by have := hbd2.size; omega) ?_; intro v39 w39 hown39 hgrow39; obtain ⟨g39, c39, rfl, hg39a, hg39b⟩ := hown39.form (by omega)))
              go_wp2
              have hbd3 := grow_low hbd2 (by have := hbd2.size; omega) hgrow39 (fun j e => by cases e; exact hgb1)
              have hfin : w39.ownsRow g 42 2 (.slice (some ⟨g39, 0, none⟩) (cap + 1) c39) (cap + 1) ((insE L x).flatMap entV) := by
                rw [hins.out, List.flatMap_append, List.flatMap_cons, hdrop]
                exact hown39
              go_roundw
              case rel => exact ⟨cap + 1, g39, c39, by omega, by go_num, by first | rfl | (show Value.slice _ (cap + (1 + 0)) _ = _; rw [show cap + (1 + 0) = cap + 1 by omega]), Lib.hid (by rw [hnx.out, ins_len, hlen.out]), by rw [hnx.out]; exact hfin, hbd3⟩
              case measure => simp [intOf]; omega
            · have hdl : ((L.drop a).flatMap entV).length = (k - a) * 2 := by rw [flat_len, List.length_drop]; omega
              have hnews : ∀ j u, ((L.drop a).flatMap entV)[j]? = some u → (wd.alloc (Obj.cells #[.string (mk x.1), .int .i64 x.2] 42)).cell? ((⟨gb, a * 2, none⟩ : Addr).add j) = some u := by
                intro j u hu
                have hj := (List.getElem?_eq_some_iff.1 hu).1
                rw [flat_len, List.length_drop] at hj
                rw [Addr.add_mid]
                refine oldA ?_ (show gb < wd.heap.size by omega) _
                rw [hownd.cellAt (a * 2 + j) (by omega), ← List.getElem?_drop, flat_drop]
                exact hu
              have hownPre := (ownsRow_prefix hownd ha).alloc (Obj.cells #[.string (mk x.1), .int .i64 x.2] 42)
              rw [flat_take] at hownPre
              go_region_law (first
                | (refine step_append_own (by rfl) _ _ _ (by rfl) g 42 i0 _ 2 24 Try.underlying22 hi hz0 hz1 hz2 rfl (by omega) (.slice (some ⟨wd.heap.size, 0, none⟩) 1 1) 1 _ (by rfl) hnew.drew ⟨gb, a * 2, none⟩ (k - a) (cap - a) ((L.drop a).flatMap entV) (by rfl) hdl (fun j u h => hnews j u h) (flat_one _) (by unfold maxLen; omega) (by omega) (by show g ≤ (wd.alloc _).heap.size; simp; omega) ?_; intro v38 w38 hown38 hgrow38; obtain ⟨g38, c38, rfl, hg38a, hg38b⟩ := hown38.form (by omega); have hpre := (hownPre.drew).kept hgrow38 (.inr (fun e => hgbn (Option.some.inj e))); have hbd2 := grow_low hbd1.drew (show g ≤ (wd.alloc _).heap.size by simp; omega) hgrow38 (fun j e => by cases e; omega))
                | (refine step_append_own (by rfl) _ _ _ (by rfl) g 42 i0 _ 2 24 Try.underlying22 hi hz0 hz1 hz2 rfl (by omega) (.slice (some ⟨gb, 0, none⟩) a cap) a _ (by rfl) hpre ⟨g38, 0, none⟩ (1 + (k - a)) c38 _ (by rfl) hown38.1 (hown38.cells rfl) (by intro u hu; rcases List.mem_append.1 hu with h | h; (simp at h; rcases h with rfl | rfl <;> rfl); first | exact flat_one _ u h | (simp at h)) (by unfold maxLen; omega) (by omega) (by have := hbd2.size; omega) ?_; intro v39 w39 hown39 hgrow39; obtain ⟨g39, c39, rfl, hg39a, hg39b⟩ := hown39.form (by omega)))
              go_wp2
              have hbd3 := grow_low hbd2 (by have := hbd2.size; omega) hgrow39 (fun j e => by cases e; exact hgb1)
              have hfin : w39.ownsRow g 42 2 (.slice (some ⟨g39, 0, none⟩) (k + 1) c39) (k + 1) ((insE L x).flatMap entV) := by
                have e1 : a + (1 + (k - a)) = k + 1 := by omega
                rw [e1] at hown39
                rw [hins.out, List.flatMap_append, List.flatMap_cons]
                exact hown39
              go_roundw
              case rel => exact ⟨k + 1, g39, c39, by omega, by go_num, by first | rfl | (show Value.slice _ (a + (1 + (k - a))) _ = _; rw [show a + (1 + (k - a)) = k + 1 by omega]), Lib.hid (by rw [hnx.out, ins_len, hlen.out]), by rw [hnx.out]; exact hfin, hbd3⟩
              case measure => simp [intOf]; omega
        · have hstop : Hid (a = L.length ∨ ∃ x1, L[a]? = some x1 ∧ ¬ x1.1 < x.1) := Lib.hid (.inl (by omega))
          have c2' : ¬ (a : Int) < (k : Int) := by omega
          go_wp2
          (try go_quiet (fail))
          (try go_wp2)
          have hins := Lib.hid (insE_at L x a hlow.out hstop.out)
          clear hstop hlow hLx
          generalize hwd : ({ wE with drawn := d } : World).drewN nq = wd at *
          have hE0d : wd.cell? ⟨q, 0, none⟩ = some (.string (mk x.1)) := by rw [← hwd]; exact hE0
          have hE1d : wd.cell? ⟨q, 1, none⟩ = some (.int .i64 x.2) := by rw [← hwd]; exact hE1
          have hownd : wd.ownsRow g 42 2 (.slice (some ⟨gb, 0, none⟩) k cap) k (L.flatMap entV) := by rw [← hwd]; exact hownE
          have hbd : Below g w wd := by rw [← hwd]; exact ⟨hbE.os, hbE.tape, hbE.output, hbE.size, hbE.block⟩
          have hzd : q < wd.heap.size := by rw [← hwd]; exact hzE
          have hcap : k ≤ cap := by
            rcases hownE.2 with ⟨h0, _⟩ | ⟨g', cap', cur, hv, _, _, h1, _⟩
            · cases h0
            · cases hv; exact h1
          have hak : (a : Int) ≤ (k : Int) := by omega
          have hac : (a : Int) ≤ (cap : Int) := by omega
          have h0a : (0 : Int) ≤ (a : Int) := by omega
          have hac2 : a ≤ cap := by omega
          have hbk := heap_alloc_new wd (Obj.cells #[.string (mk x.1), .int .i64 x.2] 42)
          have hnew : (wd.alloc (Obj.cells #[.string (mk x.1), .int .i64 x.2] 42)).ownsRow g 42 2 (.slice (some ⟨wd.heap.size, 0, none⟩) 1 1) 1 [.string (mk x.1), .int .i64 x.2] := World.ownsRow_lit wd #[.string (mk x.1), .int .i64 x.2] 1 (by have := hbd.size; omega) (by unfold maxLen; omega) rfl
          have hgb1 := hgb.1
          have hgbn : gb ≠ wd.heap.size := by omega
          have hbd1 := hbd.alloc (by omega) (Obj.cells #[.string (mk x.1), .int .i64 x.2] 42)
          have hgw2 : g ≤ wd.heap.size := by omega
          by_cases hca : cap = a
          · have hak2 : a = k := by omega
            subst hak2
            subst hca
            have hdrop : L.drop cap = [] := List.drop_of_length_le (by omega)
            have hownPre := (ownsRow_prefix hownd ha).alloc (Obj.cells #[.string (mk x.1), .int .i64 x.2] 42)
            rw [flat_take] at hownPre
            go_region_law (first
              | (refine step_append_own (by rfl) _ _ _ (by rfl) g 42 i0 _ 2 24 Try.underlying22 hi hz0 hz1 hz2 rfl (by omega) (.slice (some ⟨wd.heap.size, 0, none⟩) 1 1) 1 _ (by rfl) hnew.drew ⟨gb, 0, none⟩ 0 0 ([] : List Value) (by rfl) rfl (by intro j u hu; simp at hu) (by intro u hu; simp at hu) (by unfold maxLen; omega) (by omega) (by show g ≤ (wd.alloc _).heap.size; simp; omega) ?_; intro v38 w38 hown38 hgrow38; obtain ⟨g38, c38, rfl, hg38a, hg38b⟩ := hown38.form (by omega); have hpre := (hownPre.drew).kept hgrow38 (.inr (fun e => hgbn (Option.some.inj e))); have hbd2 := grow_low hbd1.drew (show g ≤ (wd.alloc _).heap.size by simp; omega) hgrow38 (fun j e => by cases e; omega))
              | (refine step_append_own (by rfl) _ _ _ (by rfl) g 42 i0 _ 2 24 Try.underlying22 hi hz0 hz1 hz2 rfl (by omega) (.slice (some ⟨gb, 0, none⟩) cap cap) cap _ (by rfl) hpre ⟨g38, 0, none⟩ (1 + 0) c38 _ (by rfl) hown38.1 (hown38.cells rfl) (by intro u hu; rcases List.mem_append.1 hu with h | h; (simp at h; rcases h with rfl | rfl <;> rfl); first | exact flat_one _ u h | (simp at h)) (by unfold maxLen; omega) (by omega) (by have := hbd2.size; omega) ?_; intro v39 w39 hown39 hgrow39; obtain ⟨g39, c39, rfl, hg39a, hg39b⟩ := hown39.form (by omega)))
            go_wp2
            have hbd3 := grow_low hbd2 (by have := hbd2.size; omega) hgrow39 (fun j e => by cases e; exact hgb1)
            have hfin : w39.ownsRow g 42 2 (.slice (some ⟨g39, 0, none⟩) (cap + 1) c39) (cap + 1) ((insE L x).flatMap entV) := by
              rw [hins.out, List.flatMap_append, List.flatMap_cons, hdrop]
              exact hown39
            go_roundw
            case rel => exact ⟨cap + 1, g39, c39, by omega, by go_num, by first | rfl | (show Value.slice _ (cap + (1 + 0)) _ = _; rw [show cap + (1 + 0) = cap + 1 by omega]), Lib.hid (by rw [hnx.out, ins_len, hlen.out]), by rw [hnx.out]; exact hfin, hbd3⟩
            case measure => simp [intOf]; omega
          · have hdl : ((L.drop a).flatMap entV).length = (k - a) * 2 := by rw [flat_len, List.length_drop]; omega
            have hnews : ∀ j u, ((L.drop a).flatMap entV)[j]? = some u → (wd.alloc (Obj.cells #[.string (mk x.1), .int .i64 x.2] 42)).cell? ((⟨gb, a * 2, none⟩ : Addr).add j) = some u := by
              intro j u hu
              have hj := (List.getElem?_eq_some_iff.1 hu).1
              rw [flat_len, List.length_drop] at hj
              rw [Addr.add_mid]
              refine oldA ?_ (show gb < wd.heap.size by omega) _
              rw [hownd.cellAt (a * 2 + j) (by omega), ← List.getElem?_drop, flat_drop]
              exact hu
            have hownPre := (ownsRow_prefix hownd ha).alloc (Obj.cells #[.string (mk x.1), .int .i64 x.2] 42)
            rw [flat_take] at hownPre
            go_region_law (first
              | (refine step_append_own (by rfl) _ _ _ (by rfl) g 42 i0 _ 2 24 Try.underlying22 hi hz0 hz1 hz2 rfl (by omega) (.slice (some ⟨wd.heap.size, 0, none⟩) 1 1) 1 _ (by rfl) hnew.drew ⟨gb, a * 2, none⟩ (k - a) (cap - a) ((L.drop a).flatMap entV) (by rfl) hdl (fun j u h => hnews j u h) (flat_one _) (by unfold maxLen; omega) (by omega) (by show g ≤ (wd.alloc _).heap.size; simp; omega) ?_; intro v38 w38 hown38 hgrow38; obtain ⟨g38, c38, rfl, hg38a, hg38b⟩ := hown38.form (by omega); have hpre := (hownPre.drew).kept hgrow38 (.inr (fun e => hgbn (Option.some.inj e))); have hbd2 := grow_low hbd1.drew (show g ≤ (wd.alloc _).heap.size by simp; omega) hgrow38 (fun j e => by cases e; omega))
              | (refine step_append_own (by rfl) _ _ _ (by rfl) g 42 i0 _ 2 24 Try.underlying22 hi hz0 hz1 hz2 rfl (by omega) (.slice (some ⟨gb, 0, none⟩) a cap) a _ (by rfl) hpre ⟨g38, 0, none⟩ (1 + (k - a)) c38 _ (by rfl) hown38.1 (hown38.cells rfl) (by intro u hu; rcases List.mem_append.1 hu with h | h; (simp at h; rcases h with rfl | rfl <;> rfl); first | exact flat_one _ u h | (simp at h)) (by unfold maxLen; omega) (by omega) (by have := hbd2.size; omega) ?_; intro v39 w39 hown39 hgrow39; obtain ⟨g39, c39, rfl, hg39a, hg39b⟩ := hown39.form (by omega)))
            go_wp2
            have hbd3 := grow_low hbd2 (by have := hbd2.size; omega) hgrow39 (fun j e => by cases e; exact hgb1)
            have hfin : w39.ownsRow g 42 2 (.slice (some ⟨g39, 0, none⟩) (k + 1) c39) (k + 1) ((insE L x).flatMap entV) := by
              have e1 : a + (1 + (k - a)) = k + 1 := by omega
              rw [e1] at hown39
              rw [hins.out, List.flatMap_append, List.flatMap_cons]
              exact hown39
            go_roundw
            case rel => exact ⟨k + 1, g39, c39, by omega, by go_num, by first | rfl | (show Value.slice _ (a + (1 + (k - a))) _ = _; rw [show a + (1 + (k - a)) = k + 1 by omega]), Lib.hid (by rw [hnx.out, ins_len, hlen.out]), by rw [hnx.out]; exact hfin, hbd3⟩
            case measure => simp [intOf]; omega
    · have hk : k = xs.length := by omega
      subst hk
      rw [List.take_length] at hown hlen
      go_wp2
      go_ret
      refine ⟨_, rfl, ?_, ?_⟩ <;> (try rw [hg])
      · unfold insAll; rw [hlen.out]; exact hown
      · exact hb
end Go.Proofs.Ytclngmjfhlindaa.Ma
