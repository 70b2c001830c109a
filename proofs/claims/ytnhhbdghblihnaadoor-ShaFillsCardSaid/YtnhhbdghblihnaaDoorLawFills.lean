/- oblivionlaw02.ShaFills holds. -/
import Derived.Test.YtnhhbdghblihnaaDoorShown
namespace Go.Proofs.YtnhhbdghblihnaaDoor
open Go.RowKit Sha2 Words Bytes

theorem fill_last (n : Nat) : (fill n)[(fill n).length - 1]? = some (UInt8.ofNat (8 * n)) := by
  rw [show (fill n).length - 1 = (63 - (n + 8) % 64) + 7 + 1 by rw [fill_length]; omega]
  simp [fill, be8]
theorem fill_last2 (n : Nat) : (fill n)[(fill n).length - 2]? = some (UInt8.ofNat (8 * n / 256)) := by
  rw [show (fill n).length - 2 = (63 - (n + 8) % 64) + 6 + 1 by rw [fill_length]; omega]
  simp [fill, be8]
theorem str_at (f : List UInt8) (i : Nat) (c : UInt8) (hc : f[i]? = some c) (h : i < (str f).size) : (str f)[i]'h = c := by
  rw [List.getElem?_eq_some_iff] at hc
  obtain ⟨hi, he⟩ := hc
  rw [← he]
  rfl
set_option maxRecDepth 100000 in
theorem fills_holds (n : Nat) (hn : n < 65536) (w : World) (hK : Konst w) :
    Calls Tryd.prog 5 #[.int .u16 n] w fun e w' => e = .returned (.bool true) ∧ w.grew w' := by
  refine Ext.entered w ?_
  have HK := Kept.mk hK
  clear hK
  go_enter Tryd.func5, Tryd.ntmps5
  go_wp2_with fail
  refine (fill_any n (by omega) _).mono ?_
  rintro e w' ⟨rfl, l1, d1, rfl⟩
  rw [Ext.ext]
  simp only [List.nil_append]
  have hlen : (fill n).length = 72 - (n + 8) % 64 := fill_length n
  have h0 : (fill n)[0]? = some 128 := rfl
  have h1 := fill_last n
  have h2 := fill_last2 n
  obtain ⟨L, hL⟩ : ∃ L, L = (fill n).length := ⟨_, rfl⟩
  have hm : ((n : Int) + (L : Int)) % 64 = 0 := by omega
  have h9 : 9 ≤ L := by omega
  have h73 : L < 73 := by omega
  rw [← hL] at h1 h2
  have hL' := hL.symm
  clear hL hlen
  generalize fill n = f at *
  have hb0 : ∀ h, (((str f)[0]'h).toNat : Int) = 128 := fun h => by rw [str_at f 0 _ h0 h]; rfl
  have hb1 : ∀ h, (((str f)[L - 1]'h).toNat : Int) = (n : Int) * 8 % 256 := fun h => by rw [str_at f _ _ h1 h, UInt8.toNat_ofNat']; omega
  have hb2 : ∀ h, (((str f)[L - 2]'h).toNat : Int) = (n : Int) * 8 / 256 % 256 := fun h => by rw [str_at f _ _ h2 h, UInt8.toNat_ofNat']; omega
  clear h0 h1 h2
  go_wp2_with fail
  refine (fill_neg _ (by omega) _).mono ?_
  rintro e w' ⟨rfl, rfl⟩
  have he : ((str []).toList == []) = true := by rw [str_toList]; rfl
  have he0 : (str []).toList = [] := str_toList []
  go_wp2_with fail
  refine (shown_any _ (HK.out.ext _ _)).mono ?_
  rintro e w' ⟨rfl, l2, d2, rfl⟩
  go_wp2_with fail
  go_ret
  exact ⟨rfl, by rw [Ext.ext]; exact World.grew_ext _ _ _⟩
end Go.Proofs.YtnhhbdghblihnaaDoor
