/- The document's names (printed by genC.py). -/
import Derived.Test.YtphbieaoedbmpaaDoorRpB
import Derived.IntWalk
namespace Go.Proofs.YtphbieaoedbmpaaDoor.Rp
open Go.RowKit Go.Maps Go.Sort Go.Shelf Go.Proofs.YtphbieaoedbmpaaDoor.Oct
set_option linter.unusedVariables false
def sV (x : List UInt8) : Value := .string (mk x)
theorem sV_one (L : List (List UInt8)) : ∀ u ∈ L.map sV, u.oneCell' = true := by
  intro u hu
  obtain ⟨x, _, h⟩ := List.mem_map.1 hu
  rw [← h]; rfl
theorem info9 : (Tryd.prog.info? 9).map (fun i => (i.zero, i.size, i.bytes)) = some (some (.string ⟨#[]⟩), 1, 16) := by kernel_rfl
/-! ### Names in their places -/
def insN (L : List (List UInt8)) (n : List UInt8) : List (List UInt8) :=
  if (L.dropWhile (fun y => decide (y < n))).head? = some n then L else L.takeWhile (fun y => decide (y < n)) ++ n :: L.dropWhile (fun y => decide (y < n))
def namesN (xs : List Nt) : List (List UInt8) := xs.foldl (fun L x => if x.kind = 10 then insN L x.name else L) []
theorem names_app (xs : List Nt) (x : Nt) : namesN (xs ++ [x]) = if x.kind = 10 then insN (namesN xs) x.name else namesN xs := by
  unfold namesN
  rw [List.foldl_append]
  rfl
theorem split_atN (p : List UInt8 → Bool) : ∀ (l : List (List UInt8)) (k : Nat), (∀ x ∈ l.take k, p x = true) → (k = l.length ∨ ∃ x, l[k]? = some x ∧ p x = false) → l.takeWhile p = l.take k ∧ l.dropWhile p = l.drop k
  | [], k, _, _ => by simp
  | x :: l, 0, _, h => by
    rcases h with h | ⟨y, hy, hp⟩
    · simp at h
    · cases hy
      simp [hp]
  | x :: l, k + 1, h1, h2 => by
    have hx : p x = true := h1 x (by simp)
    obtain ⟨i1, i2⟩ := split_atN p l k (fun y hy => h1 y (by simp; exact .inr hy)) (by
      rcases h2 with h2 | ⟨y, hy, hp⟩
      · left; simpa using h2
      · exact .inr ⟨y, by simpa using hy, hp⟩)
    simp [hx, i1, i2]
theorem insN_at (l : List (List UInt8)) (n : List UInt8) (k : Nat) (h1 : ∀ x ∈ l.take k, x < n) (h2 : k = l.length ∨ ∃ x, l[k]? = some x ∧ ¬ x < n) : insN l n = if l[k]? = some n then l else l.take k ++ n :: l.drop k := by
  obtain ⟨i1, i2⟩ := split_atN (fun x => decide (x < n)) l k (fun x hx => decide_eq_true (h1 x hx)) (by
    rcases h2 with h | ⟨x, hx, hn⟩
    · exact .inl h
    · exact .inr ⟨x, hx, decide_eq_false hn⟩)
  unfold insN
  rw [i1, i2, List.head?_drop]
set_option maxRecDepth 100000 in
set_option maxHeartbeats 4000000 in
theorem refNames_any (xs : List Nt) (v : Value) (w : World) (hv : Nts ntR w v xs) (hN : xs.length ≤ 1000) :
    Calls Tryd.prog 16 #[v] w fun e w' => ∃ u, e = .returned u ∧ OwnStrs w' w.heap.size u (namesN xs) ∧ Below w.heap.size w w' := by
  show Calls _ _ _ _ fun e w' => ∃ u, e = .returned u ∧ w'.ownsRow w.heap.size 9 1 u (namesN xs).length ((namesN xs).map sV) ∧ Below w.heap.size w w'
  obtain ⟨i0, hi, hz0, hz1, hz2⟩ := info_parts info9
  obtain ⟨A, c, rfl, hc, hr⟩ := hv
  have hb0 : Below w.heap.size w w := Below.refl _ _
  go_enter Tryd.func16, Tryd.ntmps16
  go_wp2
  have ho0 : (w.alloc (.cells #[] 9)).ownsRow w.heap.size 9 1 (.slice (some ⟨w.heap.size, 0, none⟩) 0 0) 0 ((namesN (xs.take 0)).map sV) := World.ownsRow_lit w #[] 0 (Nat.le_refl _) (by unfold maxLen; omega) rfl
  have hb1 := hb0.alloc (Nat.le_refl _) (.cells #[] 9)
  generalize w.alloc (.cells #[] 9) = w0 at *
  generalize hg : w.heap.size = g at *
  go_loopw [3, 10] (fun uv iv wr => ∃ (k gb cap : Nat), k ≤ xs.length ∧ iv = .int .i64 k ∧ uv = .slice (some ⟨gb, 0, none⟩) (namesN (xs.take k)).length cap ∧ (namesN (xs.take k)).length ≤ k ∧ wr.ownsRow g 9 1 (.slice (some ⟨gb, 0, none⟩) (namesN (xs.take k)).length cap) (namesN (xs.take k)).length ((namesN (xs.take k)).map sV) ∧ Below g w wr) (fun _ iv _ => xs.length - (intOf iv).toNat)
  case atStart => exact ⟨0, _, _, Nat.zero_le _, rfl, rfl, Nat.le_refl _, ho0, hb1⟩
  case round =>
    obtain ⟨k, gb, cap, hk, rfl, rfl, hlk, hown, hb⟩ := hrel
    by_cases c1 : k < xs.length
    · obtain ⟨b, o, rfl, hlt, hx⟩ := hr (by omega)
      have hx0 := hx k xs[k] (by simp [c1])
      have hc0 := (hb.cell (p := ⟨b, o + k * 5, none⟩) (by omega)).trans (hx0 0 _ rfl)
      have hc1 := (hb.cell (p := ⟨b, o + k * 5 + 1, none⟩) (by omega)).trans (hx0 1 _ rfl)
      have hc2 := (hb.cell (p := ⟨b, o + k * 5 + 2, none⟩) (by omega)).trans (hx0 2 _ rfl)
      have hc3 := (hb.cell (p := ⟨b, o + k * 5 + 3, none⟩) (by omega)).trans (hx0 3 _ rfl)
      have hc4 := (hb.cell (p := ⟨b, o + k * 5 + 4, none⟩) (by omega)).trans (hx0 4 _ rfl)
      have hnx := names_app (xs.take k) xs[k]
      rw [← List.take_succ_eq_append_getElem c1] at hnx
      replace hnx := Lib.hid hnx
      have hgw := hb.size
      generalize xs[k] = x at *
      generalize namesN (xs.take k) = L at *
      clear hx0 hx
      by_cases hkd : x.kind = 10
      · rw [if_pos hkd] at hnx
        obtain ⟨xnow, xkind, xconn, nm, xtext⟩ := x
        simp only at hkd hnx hc0 hc1 hc2 hc3 hc4
        subst hkd
        go_wp2
        have hE3 : (wr.alloc (.cells #[.int .i64 xnow, .int .i64 10, .int .i64 xconn, .string (mk nm), .string (mk xtext)] 42)).cell? ⟨wr.heap.size, 3, none⟩ = some (.string (mk nm)) := (cell_of_row _ _ 3 _ _ _ (heap_alloc_new wr _)).trans rfl
        have hownE := hown.alloc (.cells #[.int .i64 xnow, .int .i64 10, .int .i64 xconn, .string (mk nm), .string (mk xtext)] 42)
        have hbE := hb.alloc (by omega) (.cells #[.int .i64 xnow, .int .i64 10, .int .i64 xconn, .string (mk nm), .string (mk xtext)] 42)
        have hzE : wr.heap.size < (wr.alloc (.cells #[.int .i64 xnow, .int .i64 10, .int .i64 xconn, .string (mk nm), .string (mk xtext)] 42)).heap.size := by simp
        have hgb := (hown.lt gb rfl)
        generalize wr.alloc (.cells #[.int .i64 xnow, .int .i64 10, .int .i64 xconn, .string (mk nm), .string (mk xtext)] 42) = wE at *
        generalize wr.heap.size = q at *
        clear hown hb hc0 hc1 hc2 hc3 hc4
        obtain ⟨m, hlen⟩ : ∃ m, Hid (L.length = m) := ⟨_, Lib.hid rfl⟩
        rw [hlen.out] at hlk hownE
        simp only [hlen.out]
        have hLx : ∀ j (hj : j < L.length), wE.cell? ⟨gb, j, none⟩ = some (.string (mk L[j])) := fun j hj => by
          rw [hownE.cellAt j (by have := hlen.out; omega), List.getElem?_map, List.getElem?_eq_getElem hj]; rfl
        go_loopg [6] (m + 1) (fun gk av wr => ∃ a : Nat, a ≤ m ∧ gk = m + 1 - a ∧ av = .int .i64 a ∧ Hid (∀ y ∈ L.take a, y < nm) ∧ ∃ d, wr = { wE with drawn := d })
        case atStart => exact ⟨0, Nat.zero_le _, rfl, rfl, Lib.hid (by simp), _, rfl⟩
        case round =>
          obtain ⟨a, ha, hgk, rfl, hlow, d, rfl⟩ := hrel
          have hlen' := hlen.out
          have hE3' : ({ wE with drawn := d } : World).cell? ⟨q, 3, none⟩ = some (.string (mk nm)) := hE3
          by_cases c2 : a < m
          · obtain ⟨y, hy⟩ : ∃ y, Hid (L[a]? = some y) := ⟨_, Lib.hid (List.getElem?_eq_getElem (by omega))⟩
            have hyL : L[a]'(by omega) = y := by have h := hy.out; rw [List.getElem?_eq_getElem (by omega)] at h; exact Option.some.inj h
            have hcell : ({ wE with drawn := d } : World).cell? ⟨gb, a, none⟩ = some (.string (mk y)) := by rw [← hyL]; exact hLx a (by omega)
            have hbl := mk_lt y nm
            have hme := mk_eq y nm
            have c2' : (a : Int) < (m : Int) := by omega
            have c2e : ¬ (a : Int) = (m : Int) := by omega
            have z1 : (0 : Int) ≤ (a : Int) := by omega
            have hgk' := Lib.hid hgk
            by_cases c3 : y < nm
            · rw [decide_eq_true c3] at hbl
              have hsn := Lib.hid (show ∀ z ∈ L.take (a + 1), z < nm from fun z hz => by
                rw [List.take_add_one, hy.out] at hz
                rcases List.mem_append.1 hz with h3 | h3
                · exact hlow.out z h3
                · have : z = y := by simpa using h3
                  rw [this]; exact c3)
              clear c3 hgk hyL hme
              go_wp2
              go_quiet (fail)
              go_wp2
              go_roundg (m + 1 - (a + 1))
              case measure => have := hgk'.out; omega
              case rel => exact ⟨a + 1, by omega, rfl, by go_num, hsn, _, rfl⟩
            · rw [decide_eq_false c3] at hbl
              have hins := Lib.hid (insN_at L nm a hlow.out (.inr ⟨y, hy.out, c3⟩))
              rw [hy.out] at hins
              by_cases c4 : y = nm
              · rw [if_pos (by rw [c4])] at hins
                rw [decide_eq_true c4] at hme
                clear c3 c4 hgk hyL hy hlow
                go_wp2
                go_quiet (fail)
                go_wp2
                generalize hwd0 : ({ wE with drawn := d } : World).drewN nq = wd0 at *
                have hcell0 : wd0.cell? ⟨gb, a, none⟩ = some (.string (mk y)) := by rw [← hwd0]; exact hcell
                have hE30 : wd0.cell? ⟨q, 3, none⟩ = some (.string (mk nm)) := by rw [← hwd0]; exact hE3
                have hownE0 : wd0.ownsRow g 9 1 (.slice (some ⟨gb, 0, none⟩) m cap) m (L.map sV) := by rw [← hwd0]; exact hownE
                have hbE0 : Below g w wd0 := by rw [← hwd0]; exact ⟨hbE.os, hbE.tape, hbE.output, hbE.size, hbE.block⟩
                clear hLx hcell hE3 hE3' hwd0 hownE hbE
                go_quiet (fail)
                go_wp2
                go_roundw
                case rel => exact ⟨k + 1, gb, cap, by omega, by go_num, by rw [hnx.out, hins.out, hlen.out], by rw [hnx.out, hins.out, hlen.out]; omega, by rw [hnx.out, hins.out, hlen.out]; exact hownE0, ⟨hbE0.os, hbE0.tape, hbE0.output, hbE0.size, hbE0.block⟩⟩
                case measure => simp [intOf]; omega
              · rw [if_neg (by intro h; exact c4 (Option.some.inj h))] at hins
                rw [decide_eq_false c4] at hme
                clear c3 c4 hgk hyL hy hlow
                go_wp2
                go_quiet (fail)
                go_wp2
                generalize hwd0 : ({ wE with drawn := d } : World).drewN nq = wd0 at *
                have hcell0 : wd0.cell? ⟨gb, a, none⟩ = some (.string (mk y)) := by rw [← hwd0]; exact hcell
                have hE30 : wd0.cell? ⟨q, 3, none⟩ = some (.string (mk nm)) := by rw [← hwd0]; exact hE3
                have hownE0 : wd0.ownsRow g 9 1 (.slice (some ⟨gb, 0, none⟩) m cap) m (L.map sV) := by rw [← hwd0]; exact hownE
                have hbE0 : Below g w wd0 := by rw [← hwd0]; exact ⟨hbE.os, hbE.tape, hbE.output, hbE.size, hbE.block⟩
                have hzE0 : q < wd0.heap.size := by rw [← hwd0]; exact hzE
                have hgb0 : g ≤ gb ∧ gb < wd0.heap.size := hownE0.lt gb rfl
                clear hLx hcell hE3 hE3' hwd0 hownE hbE hzE hgb
                go_quiet (fail)
                go_wp2
                have hE3 := hE30; have hownE := hownE0; have hbE := hbE0; have hzE := hzE0; have hgb := hgb0; clear hE30 hownE0 hbE0 hzE0 hgb0
                generalize hwd : wd0.drewN nq = wd at *
                have hownd : wd.ownsRow g 9 1 (.slice (some ⟨gb, 0, none⟩) m cap) m (L.map sV) := by rw [← hwd]; exact hownE
                have hbd : Below g w wd := by rw [← hwd]; exact ⟨hbE.os, hbE.tape, hbE.output, hbE.size, hbE.block⟩
                have hzd : q < wd.heap.size := by rw [← hwd]; exact hzE
                have hE3d : wd.cell? ⟨q, 3, none⟩ = some (.string (mk nm)) := by rw [← hwd]; exact hE3
                have hgbd := hownd.lt gb rfl
                have hcap : m ≤ cap := by
                  rcases hownE.2 with ⟨h0, _⟩ | ⟨g', cap', cur, hv, _, _, h1, _⟩
                  · cases h0
                  · cases hv; exact h1
                have hak : (a : Int) ≤ (m : Int) := by omega
                have hac : (a : Int) ≤ (cap : Int) := by omega
                have h0a : (0 : Int) ≤ (a : Int) := by omega
                have hac2 : a ≤ cap := by omega
                have hbk := heap_alloc_new wd (Obj.cells #[.string (mk nm)] 9)
                have hnew : (wd.alloc (Obj.cells #[.string (mk nm)] 9)).ownsRow g 9 1 (.slice (some ⟨wd.heap.size, 0, none⟩) 1 1) 1 [.string (mk nm)] := World.ownsRow_lit wd #[.string (mk nm)] 1 (by omega) (by unfold maxLen; omega) rfl
                have hgb1 := hgbd.1
                have hgbn : gb ≠ wd.heap.size := by omega
                have hbd1 := hbd.alloc (by omega) (Obj.cells #[.string (mk nm)] 9)
                have hgw2 : g ≤ wd.heap.size := by omega

                have hca : ¬ cap = a := by omega
                have hdl : ((L.drop a).map sV).length = (m - a) * 1 := by rw [List.length_map, List.length_drop, hlen.out, Nat.mul_one]
                have hnews : ∀ j u, ((L.drop a).map sV)[j]? = some u → (wd.alloc (Obj.cells #[.string (mk nm)] 9)).cell? ((⟨gb, a, none⟩ : Addr).add j) = some u := by
                  intro j u hu
                  have hj := (List.getElem?_eq_some_iff.1 hu).1
                  rw [List.length_map, List.length_drop] at hj
                  rw [Addr.add_mid]
                  refine oldA ?_ (show gb < wd.heap.size by omega) _
                  rw [hownd.cellAt (a + j) (by have := hlen.out; omega), ← List.getElem?_drop, ← List.map_drop]
                  exact hu
                have hownPre := (ownsRow_prefix hownd ha).alloc (Obj.cells #[.string (mk nm)] 9)
                rw [Nat.mul_one, ← List.map_take] at hownPre
                go_region_law (first
                  | (refine step_append_own (by rfl) _ _ _ (by rfl) g 9 i0 _ 1 16 Tryd.underlying35 hi hz0 hz1 hz2 rfl (by omega) (.slice (some ⟨wd.heap.size, 0, none⟩) 1 1) 1 _ (by rfl) hnew.drew ⟨gb, a, none⟩ (m - a) (cap - a) ((L.drop a).map sV) (by rfl) hdl (fun j u h => hnews j u h) (sV_one _) (by unfold maxLen; omega) (by omega) (by show g ≤ (wd.alloc _).heap.size; simp; omega) ?_; intro v38 w38 hown38 hgrow38; obtain ⟨g38, c38, rfl, hg38a, hg38b⟩ := hown38.form (by omega); have hpre := (hownPre.drew).kept hgrow38 (.inr (fun e => hgbn (Option.some.inj e))); have hbd2 := grow_low hbd1.drew (show g ≤ (wd.alloc _).heap.size by simp; omega) hgrow38 (fun j e => by cases e; omega))
                  | (refine step_append_own (by rfl) _ _ _ (by rfl) g 9 i0 _ 1 16 Tryd.underlying35 hi hz0 hz1 hz2 rfl (by omega) (.slice (some ⟨gb, 0, none⟩) a cap) a _ (by rfl) hpre ⟨g38, 0, none⟩ (1 + (m - a)) c38 _ (by rfl) hown38.1 (hown38.cells rfl) (by intro u hu; rcases List.mem_append.1 hu with h | h; (simp at h; subst h; rfl); first | exact sV_one _ u h | (simp at h)) (by unfold maxLen; omega) (by omega) (by omega) ?_; intro v39 w39 hown39 hgrow39; obtain ⟨g39, c39, rfl, hg39a, hg39b⟩ := hown39.form (by omega)))
                go_wp2
                have hbd3 := grow_low hbd2 (by omega) hgrow39 (fun j e => by cases e; exact hgb1)
                have e1 : a + (1 + (m - a)) = m + 1 := by omega
                have hzl : (L.take a ++ nm :: L.drop a).length = m + 1 := by rw [List.length_append, List.length_cons, List.length_take, List.length_drop, hlen.out]; omega
                have hfin : w39.ownsRow g 9 1 (.slice (some ⟨g39, 0, none⟩) (m + 1) c39) (m + 1) ((L.take a ++ nm :: L.drop a).map sV) := by
                  rw [e1] at hown39
                  rw [List.map_append, List.map_cons]
                  exact hown39
                go_roundw
                case rel => exact ⟨k + 1, g39, c39, by omega, by go_num, by rw [hnx.out, hins.out, hzl, ← e1], by rw [hnx.out, hins.out, hzl]; omega, by rw [hnx.out, hins.out, hzl]; exact hfin, hbd3⟩
                case measure => simp [intOf]; omega
          · have hins := Lib.hid (insN_at L nm a hlow.out (.inl (by omega)))
            rw [List.getElem?_eq_none (by omega), if_neg (by intro h; cases h)] at hins
            have c2' : ¬ (a : Int) < (m : Int) := by omega
            have c2e : ((a : Int) == (m : Int)) = true := by rw [beq_iff_eq]; omega
            clear hlow hgk
            go_wp2
            (try go_quiet (fail))
            (try go_wp2)
            generalize hwd0 : ({ wE with drawn := d } : World).drewN nq = wd0 at *
            have hE30 : wd0.cell? ⟨q, 3, none⟩ = some (.string (mk nm)) := by rw [← hwd0]; exact hE3
            have hownE0 : wd0.ownsRow g 9 1 (.slice (some ⟨gb, 0, none⟩) m cap) m (L.map sV) := by rw [← hwd0]; exact hownE
            have hbE0 : Below g w wd0 := by rw [← hwd0]; exact ⟨hbE.os, hbE.tape, hbE.output, hbE.size, hbE.block⟩
            have hzE0 : q < wd0.heap.size := by rw [← hwd0]; exact hzE
            have hgb0 : g ≤ gb ∧ gb < wd0.heap.size := hownE0.lt gb rfl
            clear hLx hE3 hE3' hwd0 hownE hbE hzE hgb
            go_quiet (fail)
            go_wp2
            have hE3 := hE30; have hownE := hownE0; have hbE := hbE0; have hzE := hzE0; have hgb := hgb0; clear hE30 hownE0 hbE0 hzE0 hgb0
            generalize hwd : wd0.drewN nq = wd at *
            by_cases hca : cap = a
            · skip
              have hownd : wd.ownsRow g 9 1 (.slice (some ⟨gb, 0, none⟩) m cap) m (L.map sV) := by rw [← hwd]; exact hownE
              have hbd : Below g w wd := by rw [← hwd]; exact ⟨hbE.os, hbE.tape, hbE.output, hbE.size, hbE.block⟩
              have hzd : q < wd.heap.size := by rw [← hwd]; exact hzE
              have hE3d : wd.cell? ⟨q, 3, none⟩ = some (.string (mk nm)) := by rw [← hwd]; exact hE3
              have hgbd := hownd.lt gb rfl
              have hcap : m ≤ cap := by
                rcases hownE.2 with ⟨h0, _⟩ | ⟨g', cap', cur, hv, _, _, h1, _⟩
                · cases h0
                · cases hv; exact h1
              have hak : (a : Int) ≤ (m : Int) := by omega
              have hac : (a : Int) ≤ (cap : Int) := by omega
              have h0a : (0 : Int) ≤ (a : Int) := by omega
              have hac2 : a ≤ cap := by omega
              have hbk := heap_alloc_new wd (Obj.cells #[.string (mk nm)] 9)
              have hnew : (wd.alloc (Obj.cells #[.string (mk nm)] 9)).ownsRow g 9 1 (.slice (some ⟨wd.heap.size, 0, none⟩) 1 1) 1 [.string (mk nm)] := World.ownsRow_lit wd #[.string (mk nm)] 1 (by omega) (by unfold maxLen; omega) rfl
              have hgb1 := hgbd.1
              have hgbn : gb ≠ wd.heap.size := by omega
              have hbd1 := hbd.alloc (by omega) (Obj.cells #[.string (mk nm)] 9)
              have hgw2 : g ≤ wd.heap.size := by omega

              have hak2 : a = m := by omega
              subst hak2
              subst hca
              have hdrop : L.drop cap = [] := List.drop_of_length_le (by rw [hlen.out]; omega)
              have hownPre := (ownsRow_prefix hownd ha).alloc (Obj.cells #[.string (mk nm)] 9)
              rw [Nat.mul_one, ← List.map_take] at hownPre
              go_region_law (first
                | (refine step_append_own (by rfl) _ _ _ (by rfl) g 9 i0 _ 1 16 Tryd.underlying35 hi hz0 hz1 hz2 rfl (by omega) (.slice (some ⟨wd.heap.size, 0, none⟩) 1 1) 1 _ (by rfl) hnew.drew ⟨gb, 0, none⟩ 0 0 ([] : List Value) (by rfl) rfl (by intro j u hu; simp at hu) (by intro u hu; simp at hu) (by unfold maxLen; omega) (by omega) (by show g ≤ (wd.alloc _).heap.size; simp; omega) ?_; intro v38 w38 hown38 hgrow38; obtain ⟨g38, c38, rfl, hg38a, hg38b⟩ := hown38.form (by omega); have hpre := (hownPre.drew).kept hgrow38 (.inr (fun e => hgbn (Option.some.inj e))); have hbd2 := grow_low hbd1.drew (show g ≤ (wd.alloc _).heap.size by simp; omega) hgrow38 (fun j e => by cases e; omega))
                | (refine step_append_own (by rfl) _ _ _ (by rfl) g 9 i0 _ 1 16 Tryd.underlying35 hi hz0 hz1 hz2 rfl (by omega) (.slice (some ⟨gb, 0, none⟩) cap cap) cap _ (by rfl) hpre ⟨g38, 0, none⟩ (1 + 0) c38 _ (by rfl) hown38.1 (hown38.cells rfl) (by intro u hu; rcases List.mem_append.1 hu with h | h; (simp at h; subst h; rfl); first | exact sV_one _ u h | (simp at h)) (by unfold maxLen; omega) (by omega) (by omega) ?_; intro v39 w39 hown39 hgrow39; obtain ⟨g39, c39, rfl, hg39a, hg39b⟩ := hown39.form (by omega)))
              go_wp2
              have hbd3 := grow_low hbd2 (by omega) hgrow39 (fun j e => by cases e; exact hgb1)
              have hfin : w39.ownsRow g 9 1 (.slice (some ⟨g39, 0, none⟩) (cap + 1) c39) (cap + 1) ((L.take cap ++ nm :: L.drop cap).map sV) := by
                rw [List.map_append, List.map_cons, hdrop]
                exact hown39
              have hzl : (L.take cap ++ nm :: L.drop cap).length = cap + 1 := by rw [List.length_append, List.length_cons, List.length_take, List.length_drop, hlen.out]; omega
              go_roundw
              case rel => exact ⟨k + 1, g39, c39, by omega, by go_num, by rw [hnx.out, hins.out, hzl], by rw [hnx.out, hins.out, hzl]; omega, by rw [hnx.out, hins.out, hzl]; exact hfin, hbd3⟩
              case measure => simp [intOf]; omega
            · skip
              have hownd : wd.ownsRow g 9 1 (.slice (some ⟨gb, 0, none⟩) m cap) m (L.map sV) := by rw [← hwd]; exact hownE
              have hbd : Below g w wd := by rw [← hwd]; exact ⟨hbE.os, hbE.tape, hbE.output, hbE.size, hbE.block⟩
              have hzd : q < wd.heap.size := by rw [← hwd]; exact hzE
              have hE3d : wd.cell? ⟨q, 3, none⟩ = some (.string (mk nm)) := by rw [← hwd]; exact hE3
              have hgbd := hownd.lt gb rfl
              have hcap : m ≤ cap := by
                rcases hownE.2 with ⟨h0, _⟩ | ⟨g', cap', cur, hv, _, _, h1, _⟩
                · cases h0
                · cases hv; exact h1
              have hak : (a : Int) ≤ (m : Int) := by omega
              have hac : (a : Int) ≤ (cap : Int) := by omega
              have h0a : (0 : Int) ≤ (a : Int) := by omega
              have hac2 : a ≤ cap := by omega
              have hbk := heap_alloc_new wd (Obj.cells #[.string (mk nm)] 9)
              have hnew : (wd.alloc (Obj.cells #[.string (mk nm)] 9)).ownsRow g 9 1 (.slice (some ⟨wd.heap.size, 0, none⟩) 1 1) 1 [.string (mk nm)] := World.ownsRow_lit wd #[.string (mk nm)] 1 (by omega) (by unfold maxLen; omega) rfl
              have hgb1 := hgbd.1
              have hgbn : gb ≠ wd.heap.size := by omega
              have hbd1 := hbd.alloc (by omega) (Obj.cells #[.string (mk nm)] 9)
              have hgw2 : g ≤ wd.heap.size := by omega

              have hca : ¬ cap = a := by omega
              have hdl : ((L.drop a).map sV).length = (m - a) * 1 := by rw [List.length_map, List.length_drop, hlen.out, Nat.mul_one]
              have hnews : ∀ j u, ((L.drop a).map sV)[j]? = some u → (wd.alloc (Obj.cells #[.string (mk nm)] 9)).cell? ((⟨gb, a, none⟩ : Addr).add j) = some u := by
                intro j u hu
                have hj := (List.getElem?_eq_some_iff.1 hu).1
                rw [List.length_map, List.length_drop] at hj
                rw [Addr.add_mid]
                refine oldA ?_ (show gb < wd.heap.size by omega) _
                rw [hownd.cellAt (a + j) (by have := hlen.out; omega), ← List.getElem?_drop, ← List.map_drop]
                exact hu
              have hownPre := (ownsRow_prefix hownd ha).alloc (Obj.cells #[.string (mk nm)] 9)
              rw [Nat.mul_one, ← List.map_take] at hownPre
              go_region_law (first
                | (refine step_append_own (by rfl) _ _ _ (by rfl) g 9 i0 _ 1 16 Tryd.underlying35 hi hz0 hz1 hz2 rfl (by omega) (.slice (some ⟨wd.heap.size, 0, none⟩) 1 1) 1 _ (by rfl) hnew.drew ⟨gb, a, none⟩ (m - a) (cap - a) ((L.drop a).map sV) (by rfl) hdl (fun j u h => hnews j u h) (sV_one _) (by unfold maxLen; omega) (by omega) (by show g ≤ (wd.alloc _).heap.size; simp; omega) ?_; intro v38 w38 hown38 hgrow38; obtain ⟨g38, c38, rfl, hg38a, hg38b⟩ := hown38.form (by omega); have hpre := (hownPre.drew).kept hgrow38 (.inr (fun e => hgbn (Option.some.inj e))); have hbd2 := grow_low hbd1.drew (show g ≤ (wd.alloc _).heap.size by simp; omega) hgrow38 (fun j e => by cases e; omega))
                | (refine step_append_own (by rfl) _ _ _ (by rfl) g 9 i0 _ 1 16 Tryd.underlying35 hi hz0 hz1 hz2 rfl (by omega) (.slice (some ⟨gb, 0, none⟩) a cap) a _ (by rfl) hpre ⟨g38, 0, none⟩ (1 + (m - a)) c38 _ (by rfl) hown38.1 (hown38.cells rfl) (by intro u hu; rcases List.mem_append.1 hu with h | h; (simp at h; subst h; rfl); first | exact sV_one _ u h | (simp at h)) (by unfold maxLen; omega) (by omega) (by omega) ?_; intro v39 w39 hown39 hgrow39; obtain ⟨g39, c39, rfl, hg39a, hg39b⟩ := hown39.form (by omega)))
              go_wp2
              have hbd3 := grow_low hbd2 (by omega) hgrow39 (fun j e => by cases e; exact hgb1)
              have e1 : a + (1 + (m - a)) = m + 1 := by omega
              have hzl : (L.take a ++ nm :: L.drop a).length = m + 1 := by rw [List.length_append, List.length_cons, List.length_take, List.length_drop, hlen.out]; omega
              have hfin : w39.ownsRow g 9 1 (.slice (some ⟨g39, 0, none⟩) (m + 1) c39) (m + 1) ((L.take a ++ nm :: L.drop a).map sV) := by
                rw [e1] at hown39
                rw [List.map_append, List.map_cons]
                exact hown39
              go_roundw
              case rel => exact ⟨k + 1, g39, c39, by omega, by go_num, by rw [hnx.out, hins.out, hzl, ← e1], by rw [hnx.out, hins.out, hzl]; omega, by rw [hnx.out, hins.out, hzl]; exact hfin, hbd3⟩
              case measure => simp [intOf]; omega
      · rw [if_neg hkd] at hnx
        go_wp2
        go_roundw
        case rel => exact ⟨k + 1, gb, cap, by omega, by go_num, by rw [hnx.out], by rw [hnx.out]; omega, by rw [hnx.out]; exact hown.alloc _, hb.alloc (by omega) _⟩
        case measure => simp [intOf]; omega
    · have hk : k = xs.length := by omega
      subst hk
      rw [List.take_of_length_le (Nat.le_refl _)] at hown ⊢
      go_wp2
      go_ret
      refine ⟨_, rfl, ?_, ?_⟩ <;> rw [hg]
      · exact hown
      · exact hb
end Go.Proofs.YtphbieaoedbmpaaDoor.Rp
