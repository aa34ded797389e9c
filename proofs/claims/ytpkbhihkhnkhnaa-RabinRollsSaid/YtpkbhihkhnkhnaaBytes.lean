/- Texts as lists of bytes: plain facts. -/
namespace Go.Proofs.Ytpkbhihkhnkhnaa
theorem ba_ext {a b : ByteArray} (h : a.data.toList = b.data.toList) : a = b := by
  cases a with
  | mk x => cases b with
    | mk y => rw [show x = y from Array.toList_inj.1 h]
theorem ba_append (a b : ByteArray) : (a ++ b).data.toList = a.data.toList ++ b.data.toList := by
  rw [ByteArray.data_append]; simp
theorem ba_extract (a : ByteArray) (i j : Nat) : (a.extract i j).data.toList = (a.data.toList.take j).drop i := by
  rw [ByteArray.data_extract, Array.toList_extract, List.extract_eq_take_drop, List.drop_take]
theorem ba_size (a : ByteArray) : a.size = a.data.toList.length := by simp
theorem ba_mk (l : List UInt8) : (⟨l.toArray⟩ : ByteArray).data.toList = l := rfl
theorem ba_mk_size (l : List UInt8) : (⟨l.toArray⟩ : ByteArray).size = l.length := by rw [ba_size, ba_mk]
theorem ba_of (a : ByteArray) : a = ⟨a.data.toList.toArray⟩ := ba_ext rfl
end Go.Proofs.Ytpkbhihkhnkhnaa
