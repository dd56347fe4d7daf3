import Derived.Test.Qxb6500749aStt
import Derived.Test.Qxb6500749aItr
namespace Go.Proofs.Qxb6500749a
open Go.RowKit
attribute [local go_sem] put_size put_cell_same put_cell_ne put_frozen_same put_frozen_ne put_setCell_same put_setCell_ne put_drew
attribute [local go_sem] drewN_setCell drewN_alloc drewN_put
/-! ### The comparison at the end of law 4 -/
def findR (n : Nat) : Code → Option Code
  | .region id ops d => if id = n then some (.region id ops d) else none
  | .seq a b => match findR n a with
    | some c => some c
    | none => findR n b
  | .block _ c => findR n c
  | .scope c => findR n c
  | .loop c => findR n c
  | .cond _ a b => match findR n a with
    | some c => some c
    | none => findR n b
  | _ => none
def fr4v (rg mb tb : Nat) (u : Nat → Value) : Act :=
  { tmps := ((u 0) :: (u 1) :: (u 2) :: (.pointer (some ⟨rg, 0, none⟩)) :: (.pointer (some ⟨mb, 0, none⟩)) :: (u 5) :: (u 6) :: (.pointer (some ⟨tb, 0, none⟩)) :: (u 8) :: (u 9) :: (u 10) :: (u 11) :: (u 12) :: (u 13) :: (u 14) :: (u 15) :: (u 16) :: (u 17) :: (u 18) :: (u 19) :: (u 20) :: (u 21) :: (u 22) :: (u 23) :: (u 24) :: (u 25) :: (u 26) :: (u 27) :: (u 28) :: (u 29) :: (u 30) :: (u 31) :: (u 32) :: (u 33) :: (u 34) :: (u 35) :: (u 36) :: (u 37) :: (u 38) :: (u 39) :: (u 40) :: (u 41) :: (u 42) :: (u 43) :: (u 44) :: (u 45) :: (u 46) :: (u 47) :: (u 48) :: (u 49) :: (u 50) :: (u 51) :: (u 52) :: (u 53) :: (u 54) :: (u 55) :: (u 56) :: (u 57) :: (u 58) :: (u 59) :: (u 60) :: (u 61) :: (u 62) :: (u 63) :: (u 64) :: (u 65) :: (u 66) :: (u 67) :: (u 68) :: (u 69) :: (u 70) :: (u 71) :: (u 72) :: (u 73) :: (u 74) :: (u 75) :: (u 76) :: (u 77) :: (u 78) :: (u 79) :: (u 80) :: (u 81) :: (u 82) :: (u 83) :: (u 84) :: (u 85) :: (u 86) :: (u 87) :: (u 88) :: (u 89) :: (u 90) :: (u 91) :: (u 92) :: (u 93) :: (u 94) :: (u 95) :: (u 96) :: (u 97) :: (u 98) :: (u 99) :: (u 100) :: (u 101) :: (u 102) :: (u 103) :: (u 104) :: (u 105) :: (u 106) :: (u 107) :: (u 108) :: (u 109) :: (u 110) :: (u 111) :: (u 112) :: (u 113) :: (u 114) :: (u 115) :: (u 116) :: (u 117) :: (u 118) :: (u 119) :: (u 120) :: (u 121) :: (u 122) :: (u 123) :: (u 124) :: (u 125) :: (u 126) :: (u 127) :: (u 128) :: (u 129) :: (u 130) :: (u 131) :: (u 132) :: (u 133) :: (u 134) :: (u 135) :: (u 136) :: (u 137) :: (u 138) :: (u 139) :: (u 140) :: (u 141) :: (u 142) :: (u 143) :: (u 144) :: (u 145) :: (u 146) :: (u 147) :: (u 148) :: (u 149) :: (u 150) :: (u 151) :: (u 152) :: (u 153) :: (u 154) :: (u 155) :: (u 156) :: (u 157) :: (u 158) :: (u 159) :: (u 160) :: (u 161) :: (u 162) :: (u 163) :: (u 164) :: (u 165) :: (u 166) :: (u 167) :: (u 168) :: (u 169) :: (u 170) :: (u 171) :: (u 172) :: (u 173) :: (u 174) :: (u 175) :: (u 176) :: (u 177) :: (u 178) :: (u 179) :: (u 180) :: (u 181) :: [] : List Value).toArray, defers := [] }
def fr4e (rg : Nat) (u : Nat → Value) : Act :=
  { tmps := ((u 0) :: (u 1) :: (u 2) :: (.pointer (some ⟨rg, 0, none⟩)) :: (u 4) :: (u 5) :: (u 6) :: (u 7) :: (u 8) :: (u 9) :: (u 10) :: (u 11) :: (u 12) :: (u 13) :: (u 14) :: (u 15) :: (u 16) :: (u 17) :: (u 18) :: (u 19) :: (u 20) :: (u 21) :: (u 22) :: (u 23) :: (u 24) :: (u 25) :: (u 26) :: (u 27) :: (u 28) :: (u 29) :: (u 30) :: (u 31) :: (u 32) :: (u 33) :: (u 34) :: (u 35) :: (u 36) :: (u 37) :: (u 38) :: (u 39) :: (u 40) :: (u 41) :: (u 42) :: (u 43) :: (u 44) :: (u 45) :: (u 46) :: (u 47) :: (u 48) :: (u 49) :: (u 50) :: (u 51) :: (u 52) :: (u 53) :: (u 54) :: (u 55) :: (u 56) :: (u 57) :: (u 58) :: (u 59) :: (u 60) :: (u 61) :: (u 62) :: (u 63) :: (u 64) :: (u 65) :: (u 66) :: (u 67) :: (u 68) :: (u 69) :: (u 70) :: (u 71) :: (u 72) :: (u 73) :: (u 74) :: (u 75) :: (u 76) :: (u 77) :: (u 78) :: (u 79) :: (u 80) :: (u 81) :: (u 82) :: (u 83) :: (u 84) :: (u 85) :: (u 86) :: (u 87) :: (u 88) :: (u 89) :: (u 90) :: (u 91) :: (u 92) :: (u 93) :: (u 94) :: (u 95) :: (u 96) :: (u 97) :: (u 98) :: (u 99) :: (u 100) :: (u 101) :: (u 102) :: (u 103) :: (u 104) :: (u 105) :: (u 106) :: (u 107) :: (u 108) :: (u 109) :: (u 110) :: (u 111) :: (u 112) :: (u 113) :: (u 114) :: (u 115) :: (u 116) :: (u 117) :: (u 118) :: (u 119) :: (u 120) :: (u 121) :: (u 122) :: (u 123) :: (u 124) :: (u 125) :: (u 126) :: (u 127) :: (u 128) :: (u 129) :: (u 130) :: (u 131) :: (u 132) :: (u 133) :: (u 134) :: (u 135) :: (u 136) :: (u 137) :: (u 138) :: (u 139) :: (u 140) :: (u 141) :: (u 142) :: (.bool false) :: (u 144) :: (u 145) :: (u 146) :: (u 147) :: (u 148) :: (u 149) :: (u 150) :: (u 151) :: (u 152) :: (u 153) :: (u 154) :: (u 155) :: (u 156) :: (u 157) :: (u 158) :: (u 159) :: (u 160) :: (u 161) :: (u 162) :: (u 163) :: (u 164) :: (u 165) :: (u 166) :: (u 167) :: (u 168) :: (u 169) :: (u 170) :: (u 171) :: (u 172) :: (u 173) :: (u 174) :: (u 175) :: (u 176) :: (u 177) :: (u 178) :: (u 179) :: (u 180) :: (u 181) :: [] : List Value).toArray, defers := [] }
def fr4g1 (rg mb tb : Nat) (u : Nat → Value) : Act :=
  { tmps := ((u 0) :: (u 1) :: (u 2) :: (.pointer (some ⟨rg, 0, none⟩)) :: (.pointer (some ⟨mb, 0, none⟩)) :: (u 5) :: (u 6) :: (.pointer (some ⟨tb, 0, none⟩)) :: (u 8) :: (u 9) :: (u 10) :: (u 11) :: (u 12) :: (u 13) :: (u 14) :: (u 15) :: (u 16) :: (u 17) :: (u 18) :: (u 19) :: (u 20) :: (u 21) :: (u 22) :: (u 23) :: (u 24) :: (u 25) :: (u 26) :: (u 27) :: (u 28) :: (u 29) :: (u 30) :: (u 31) :: (u 32) :: (u 33) :: (u 34) :: (u 35) :: (u 36) :: (u 37) :: (u 38) :: (u 39) :: (u 40) :: (u 41) :: (u 42) :: (u 43) :: (u 44) :: (u 45) :: (u 46) :: (u 47) :: (u 48) :: (u 49) :: (u 50) :: (u 51) :: (u 52) :: (u 53) :: (u 54) :: (u 55) :: (u 56) :: (u 57) :: (u 58) :: (u 59) :: (u 60) :: (u 61) :: (u 62) :: (u 63) :: (u 64) :: (u 65) :: (u 66) :: (u 67) :: (u 68) :: (u 69) :: (u 70) :: (u 71) :: (u 72) :: (u 73) :: (u 74) :: (u 75) :: (u 76) :: (u 77) :: (u 78) :: (u 79) :: (u 80) :: (u 81) :: (u 82) :: (u 83) :: (u 84) :: (u 85) :: (u 86) :: (u 87) :: (u 88) :: (.bool false) :: (u 90) :: (u 91) :: (u 92) :: (u 93) :: (u 94) :: (u 95) :: (u 96) :: (u 97) :: (u 98) :: (u 99) :: (u 100) :: (u 101) :: (u 102) :: (u 103) :: (u 104) :: (u 105) :: (u 106) :: (u 107) :: (u 108) :: (u 109) :: (u 110) :: (u 111) :: (u 112) :: (u 113) :: (u 114) :: (u 115) :: (u 116) :: (u 117) :: (u 118) :: (u 119) :: (u 120) :: (u 121) :: (u 122) :: (u 123) :: (u 124) :: (u 125) :: (u 126) :: (u 127) :: (u 128) :: (u 129) :: (u 130) :: (u 131) :: (u 132) :: (u 133) :: (u 134) :: (u 135) :: (u 136) :: (u 137) :: (u 138) :: (u 139) :: (u 140) :: (u 141) :: (u 142) :: (u 143) :: (u 144) :: (u 145) :: (u 146) :: (u 147) :: (u 148) :: (u 149) :: (u 150) :: (u 151) :: (u 152) :: (u 153) :: (u 154) :: (u 155) :: (u 156) :: (u 157) :: (u 158) :: (u 159) :: (u 160) :: (u 161) :: (u 162) :: (u 163) :: (u 164) :: (u 165) :: (u 166) :: (u 167) :: (u 168) :: (u 169) :: (u 170) :: (u 171) :: (u 172) :: (u 173) :: (u 174) :: (u 175) :: (u 176) :: (u 177) :: (u 178) :: (u 179) :: (u 180) :: (u 181) :: [] : List Value).toArray, defers := [] }
def fr4g2 (rg mb tb : Nat) (u : Nat → Value) : Act :=
  { tmps := ((u 0) :: (u 1) :: (u 2) :: (.pointer (some ⟨rg, 0, none⟩)) :: (.pointer (some ⟨mb, 0, none⟩)) :: (u 5) :: (u 6) :: (.pointer (some ⟨tb, 0, none⟩)) :: (u 8) :: (u 9) :: (u 10) :: (u 11) :: (u 12) :: (u 13) :: (u 14) :: (u 15) :: (u 16) :: (u 17) :: (u 18) :: (u 19) :: (u 20) :: (u 21) :: (u 22) :: (u 23) :: (u 24) :: (u 25) :: (u 26) :: (u 27) :: (u 28) :: (u 29) :: (u 30) :: (u 31) :: (u 32) :: (u 33) :: (u 34) :: (u 35) :: (u 36) :: (u 37) :: (u 38) :: (u 39) :: (u 40) :: (u 41) :: (u 42) :: (u 43) :: (u 44) :: (u 45) :: (u 46) :: (u 47) :: (u 48) :: (u 49) :: (u 50) :: (u 51) :: (u 52) :: (u 53) :: (u 54) :: (u 55) :: (u 56) :: (u 57) :: (u 58) :: (u 59) :: (u 60) :: (u 61) :: (u 62) :: (u 63) :: (u 64) :: (u 65) :: (u 66) :: (u 67) :: (u 68) :: (u 69) :: (u 70) :: (u 71) :: (u 72) :: (u 73) :: (u 74) :: (u 75) :: (u 76) :: (u 77) :: (u 78) :: (u 79) :: (u 80) :: (u 81) :: (u 82) :: (u 83) :: (u 84) :: (u 85) :: (u 86) :: (u 87) :: (u 88) :: (u 89) :: (u 90) :: (u 91) :: (u 92) :: (u 93) :: (u 94) :: (u 95) :: (u 96) :: (u 97) :: (u 98) :: (u 99) :: (u 100) :: (.bool false) :: (u 102) :: (u 103) :: (u 104) :: (u 105) :: (u 106) :: (u 107) :: (u 108) :: (u 109) :: (u 110) :: (u 111) :: (u 112) :: (u 113) :: (u 114) :: (u 115) :: (u 116) :: (u 117) :: (u 118) :: (u 119) :: (u 120) :: (u 121) :: (u 122) :: (u 123) :: (u 124) :: (u 125) :: (u 126) :: (u 127) :: (u 128) :: (u 129) :: (u 130) :: (u 131) :: (u 132) :: (u 133) :: (u 134) :: (u 135) :: (u 136) :: (u 137) :: (u 138) :: (u 139) :: (u 140) :: (u 141) :: (u 142) :: (u 143) :: (u 144) :: (u 145) :: (u 146) :: (u 147) :: (u 148) :: (u 149) :: (u 150) :: (u 151) :: (u 152) :: (u 153) :: (u 154) :: (u 155) :: (u 156) :: (u 157) :: (u 158) :: (u 159) :: (u 160) :: (u 161) :: (u 162) :: (u 163) :: (u 164) :: (u 165) :: (u 166) :: (u 167) :: (u 168) :: (u 169) :: (u 170) :: (u 171) :: (u 172) :: (u 173) :: (u 174) :: (u 175) :: (u 176) :: (u 177) :: (u 178) :: (u 179) :: (u 180) :: (u 181) :: [] : List Value).toArray, defers := [] }
def fr4g3 (rg mb tb : Nat) (u : Nat → Value) : Act :=
  { tmps := ((u 0) :: (u 1) :: (u 2) :: (.pointer (some ⟨rg, 0, none⟩)) :: (.pointer (some ⟨mb, 0, none⟩)) :: (u 5) :: (u 6) :: (.pointer (some ⟨tb, 0, none⟩)) :: (u 8) :: (u 9) :: (u 10) :: (u 11) :: (u 12) :: (u 13) :: (u 14) :: (u 15) :: (u 16) :: (u 17) :: (u 18) :: (u 19) :: (u 20) :: (u 21) :: (u 22) :: (u 23) :: (u 24) :: (u 25) :: (u 26) :: (u 27) :: (u 28) :: (u 29) :: (u 30) :: (u 31) :: (u 32) :: (u 33) :: (u 34) :: (u 35) :: (u 36) :: (u 37) :: (u 38) :: (u 39) :: (u 40) :: (u 41) :: (u 42) :: (u 43) :: (u 44) :: (u 45) :: (u 46) :: (u 47) :: (u 48) :: (u 49) :: (u 50) :: (u 51) :: (u 52) :: (u 53) :: (u 54) :: (u 55) :: (u 56) :: (u 57) :: (u 58) :: (u 59) :: (u 60) :: (u 61) :: (u 62) :: (u 63) :: (u 64) :: (u 65) :: (u 66) :: (u 67) :: (u 68) :: (u 69) :: (u 70) :: (u 71) :: (u 72) :: (u 73) :: (u 74) :: (u 75) :: (u 76) :: (u 77) :: (u 78) :: (u 79) :: (u 80) :: (u 81) :: (u 82) :: (u 83) :: (u 84) :: (u 85) :: (u 86) :: (u 87) :: (u 88) :: (u 89) :: (u 90) :: (u 91) :: (u 92) :: (u 93) :: (u 94) :: (u 95) :: (u 96) :: (u 97) :: (u 98) :: (u 99) :: (u 100) :: (u 101) :: (u 102) :: (u 103) :: (u 104) :: (u 105) :: (u 106) :: (u 107) :: (u 108) :: (u 109) :: (u 110) :: (u 111) :: (u 112) :: (.bool false) :: (u 114) :: (u 115) :: (u 116) :: (u 117) :: (u 118) :: (u 119) :: (u 120) :: (u 121) :: (u 122) :: (u 123) :: (u 124) :: (u 125) :: (u 126) :: (u 127) :: (u 128) :: (u 129) :: (u 130) :: (u 131) :: (u 132) :: (u 133) :: (u 134) :: (u 135) :: (u 136) :: (u 137) :: (u 138) :: (u 139) :: (u 140) :: (u 141) :: (u 142) :: (u 143) :: (u 144) :: (u 145) :: (u 146) :: (u 147) :: (u 148) :: (u 149) :: (u 150) :: (u 151) :: (u 152) :: (u 153) :: (u 154) :: (u 155) :: (u 156) :: (u 157) :: (u 158) :: (u 159) :: (u 160) :: (u 161) :: (u 162) :: (u 163) :: (u 164) :: (u 165) :: (u 166) :: (u 167) :: (u 168) :: (u 169) :: (u 170) :: (u 171) :: (u 172) :: (u 173) :: (u 174) :: (u 175) :: (u 176) :: (u 177) :: (u 178) :: (u 179) :: (u 180) :: (u 181) :: [] : List Value).toArray, defers := [] }
def fr4g4 (rg mb tb : Nat) (u : Nat → Value) : Act :=
  { tmps := ((u 0) :: (u 1) :: (u 2) :: (.pointer (some ⟨rg, 0, none⟩)) :: (.pointer (some ⟨mb, 0, none⟩)) :: (u 5) :: (u 6) :: (.pointer (some ⟨tb, 0, none⟩)) :: (u 8) :: (u 9) :: (u 10) :: (u 11) :: (u 12) :: (u 13) :: (u 14) :: (u 15) :: (u 16) :: (u 17) :: (u 18) :: (u 19) :: (u 20) :: (u 21) :: (u 22) :: (u 23) :: (u 24) :: (u 25) :: (u 26) :: (u 27) :: (u 28) :: (u 29) :: (u 30) :: (u 31) :: (u 32) :: (u 33) :: (u 34) :: (u 35) :: (u 36) :: (u 37) :: (u 38) :: (u 39) :: (u 40) :: (u 41) :: (u 42) :: (u 43) :: (u 44) :: (u 45) :: (u 46) :: (u 47) :: (u 48) :: (u 49) :: (u 50) :: (u 51) :: (u 52) :: (u 53) :: (u 54) :: (u 55) :: (u 56) :: (u 57) :: (u 58) :: (u 59) :: (u 60) :: (u 61) :: (u 62) :: (u 63) :: (u 64) :: (u 65) :: (u 66) :: (u 67) :: (u 68) :: (u 69) :: (u 70) :: (u 71) :: (u 72) :: (u 73) :: (u 74) :: (u 75) :: (u 76) :: (u 77) :: (u 78) :: (u 79) :: (u 80) :: (u 81) :: (u 82) :: (u 83) :: (u 84) :: (u 85) :: (u 86) :: (u 87) :: (u 88) :: (u 89) :: (u 90) :: (u 91) :: (u 92) :: (u 93) :: (u 94) :: (u 95) :: (u 96) :: (u 97) :: (u 98) :: (u 99) :: (u 100) :: (u 101) :: (u 102) :: (u 103) :: (u 104) :: (u 105) :: (u 106) :: (u 107) :: (u 108) :: (u 109) :: (u 110) :: (u 111) :: (u 112) :: (u 113) :: (u 114) :: (u 115) :: (u 116) :: (u 117) :: (u 118) :: (u 119) :: (u 120) :: (u 121) :: (u 122) :: (u 123) :: (u 124) :: (u 125) :: (.bool false) :: (u 127) :: (u 128) :: (u 129) :: (u 130) :: (u 131) :: (u 132) :: (u 133) :: (u 134) :: (u 135) :: (u 136) :: (u 137) :: (u 138) :: (u 139) :: (u 140) :: (u 141) :: (u 142) :: (u 143) :: (u 144) :: (u 145) :: (u 146) :: (u 147) :: (u 148) :: (u 149) :: (u 150) :: (u 151) :: (u 152) :: (u 153) :: (u 154) :: (u 155) :: (u 156) :: (u 157) :: (u 158) :: (u 159) :: (u 160) :: (u 161) :: (u 162) :: (u 163) :: (u 164) :: (u 165) :: (u 166) :: (u 167) :: (u 168) :: (u 169) :: (u 170) :: (u 171) :: (u 172) :: (u 173) :: (u 174) :: (u 175) :: (u 176) :: (u 177) :: (u 178) :: (u 179) :: (u 180) :: (u 181) :: [] : List Value).toArray, defers := [] }
def fr4g5 (rg mb tb : Nat) (u : Nat → Value) : Act :=
  { tmps := ((u 0) :: (u 1) :: (u 2) :: (.pointer (some ⟨rg, 0, none⟩)) :: (.pointer (some ⟨mb, 0, none⟩)) :: (u 5) :: (u 6) :: (.pointer (some ⟨tb, 0, none⟩)) :: (u 8) :: (u 9) :: (u 10) :: (u 11) :: (u 12) :: (u 13) :: (u 14) :: (u 15) :: (u 16) :: (u 17) :: (u 18) :: (u 19) :: (u 20) :: (u 21) :: (u 22) :: (u 23) :: (u 24) :: (u 25) :: (u 26) :: (u 27) :: (u 28) :: (u 29) :: (u 30) :: (u 31) :: (u 32) :: (u 33) :: (u 34) :: (u 35) :: (u 36) :: (u 37) :: (u 38) :: (u 39) :: (u 40) :: (u 41) :: (u 42) :: (u 43) :: (u 44) :: (u 45) :: (u 46) :: (u 47) :: (u 48) :: (u 49) :: (u 50) :: (u 51) :: (u 52) :: (u 53) :: (u 54) :: (u 55) :: (u 56) :: (u 57) :: (u 58) :: (u 59) :: (u 60) :: (u 61) :: (u 62) :: (u 63) :: (u 64) :: (u 65) :: (u 66) :: (u 67) :: (u 68) :: (u 69) :: (u 70) :: (u 71) :: (u 72) :: (u 73) :: (u 74) :: (u 75) :: (u 76) :: (u 77) :: (u 78) :: (u 79) :: (u 80) :: (u 81) :: (u 82) :: (u 83) :: (u 84) :: (u 85) :: (u 86) :: (u 87) :: (u 88) :: (u 89) :: (u 90) :: (u 91) :: (u 92) :: (u 93) :: (u 94) :: (u 95) :: (u 96) :: (u 97) :: (u 98) :: (u 99) :: (u 100) :: (u 101) :: (u 102) :: (u 103) :: (u 104) :: (u 105) :: (u 106) :: (u 107) :: (u 108) :: (u 109) :: (u 110) :: (u 111) :: (u 112) :: (u 113) :: (u 114) :: (u 115) :: (u 116) :: (u 117) :: (u 118) :: (u 119) :: (u 120) :: (u 121) :: (u 122) :: (u 123) :: (u 124) :: (u 125) :: (u 126) :: (u 127) :: (u 128) :: (u 129) :: (u 130) :: (u 131) :: (u 132) :: (u 133) :: (u 134) :: (.bool false) :: (u 136) :: (u 137) :: (u 138) :: (u 139) :: (u 140) :: (u 141) :: (u 142) :: (u 143) :: (u 144) :: (u 145) :: (u 146) :: (u 147) :: (u 148) :: (u 149) :: (u 150) :: (u 151) :: (u 152) :: (u 153) :: (u 154) :: (u 155) :: (u 156) :: (u 157) :: (u 158) :: (u 159) :: (u 160) :: (u 161) :: (u 162) :: (u 163) :: (u 164) :: (u 165) :: (u 166) :: (u 167) :: (u 168) :: (u 169) :: (u 170) :: (u 171) :: (u 172) :: (u 173) :: (u 174) :: (u 175) :: (u 176) :: (u 177) :: (u 178) :: (u 179) :: (u 180) :: (u 181) :: [] : List Value).toArray, defers := [] }
set_option linter.unusedVariables false in
set_option linter.unusedSimpArgs false in
set_option maxRecDepth 100000 in
set_option maxHeartbeats 16000000 in
theorem reg14_0 (rg mb tb pb ub : Nat) (hv tv : Bool) (ga pa : Option Addr) (gn gc pc : Nat) (r : Nat → Int) (px : Int) (WZ : World)
    (C19 : Hid (∀ ω, Below WZ.heap.size WZ ω → Calls Try.prog 19 #[.pointer (some ⟨rg, 0, none⟩)] ω fun e w' => e = .returned (.bool true) ∧ Below WZ.heap.size WZ w'))
    (ops : Array Oper) (hops : (Try.f4.body.bind (findR 14)).getD .skip = .region 14 ops true) (Q : Act → World → Prop)
    (HKR : Hid (∀ (act : Act) (w' : World), act = fr4g1 rg mb tb (fun i => act.tmps.getD i undef) → Below WZ.heap.size WZ w' → wpA0 Q Try.prog ops 54 (setAll (Array.replicate ops.size false) [0, 1, 2, 3]) act w'))
    (u : Nat → Value) (v0 : World) (HJ0 : Hid (Below WZ.heap.size WZ v0)) : wpA0 Q Try.prog ops 58 (Array.replicate ops.size false) (fr4v rg mb tb u) v0 := by
  conv at hops => lhs; whnf
  injection hops with _ ho _
  subst ho
  unfold fr4v
  refine wpA0_ch [0, 1, 2, 3] 54 rfl (by kernel_rfl) ?_
  refine wpCh_rest _ _ _ _ [_, _, _, _] _ _ rfl (by kernel_rfl) ?_
  simp only [List.getElem_toArray, List.getElem_cons_succ, List.getElem_cons_zero, Act.put, List.setIfInBounds_toArray, List.set_cons_succ, List.set_cons_zero]
  go_wp2_with fail
  refine (C19.out _ HJ0.out).mono ?_
  rintro e v1 ⟨rfl, hj⟩
  have HJ1 := hid_of hj
  clear hj HJ0
  go_wp2_with fail
  exact HKR.out _ _ (by kernel_rfl) HJ1.out
set_option linter.unusedVariables false in
set_option linter.unusedSimpArgs false in
set_option maxRecDepth 100000 in
set_option maxHeartbeats 16000000 in
theorem reg14_1 (rg mb tb pb ub : Nat) (hv tv : Bool) (ga pa : Option Addr) (gn gc pc : Nat) (r : Nat → Int) (px : Int) (WZ : World)
    (HF : Hid (∀ ω, Below WZ.heap.size WZ ω → ω.cell? ⟨rg, 20, none⟩ = some (.pointer (some ⟨pb, 0, none⟩)) ∧ ω.cell? ⟨mb, 19, none⟩ = some (.bool hv) ∧ ω.cell? ⟨mb, 20, none⟩ = some (.bool tv) ∧ ω.cell? ⟨rg, 2, none⟩ = some (.pointer (some ⟨ub, 0, none⟩)) ∧ ω.cell? ⟨mb, 21, none⟩ = some (.slice ga gn gc)))
    (C20 : Hid (∀ ω, Below WZ.heap.size WZ ω → Calls Try.prog 20 #[.pointer (some ⟨pb, 0, none⟩)] ω fun e w' => e = .returned (.bool hv) ∧ Below WZ.heap.size WZ w'))
    (ops : Array Oper) (hops : (Try.f4.body.bind (findR 14)).getD .skip = .region 14 ops true) (Q : Act → World → Prop)
    (HKR : Hid (∀ (act : Act) (w' : World), act = fr4g2 rg mb tb (fun i => act.tmps.getD i undef) → Below WZ.heap.size WZ w' → wpA0 Q Try.prog ops 42 (setAll (setAll (setAll (Array.replicate ops.size false) [0, 1, 2, 3]) [4, 5, 6, 7, 9, 10, 11, 12]) [8, 13, 14, 15]) act w'))
    (u : Nat → Value) (v1 : World) (HJ1 : Hid (Below WZ.heap.size WZ v1)) : wpA0 Q Try.prog ops 54 (setAll (Array.replicate ops.size false) [0, 1, 2, 3]) (fr4g1 rg mb tb u) v1 := by
  conv at hops => lhs; whnf
  injection hops with _ ho _
  subst ho
  unfold fr4g1
  refine wpA0_fl [4, 5, 6, 7, 9, 10, 11, 12] [8, 13, 14, 15] [4, 5, 6, 9, 10, 11] 42 (fun ω => Below WZ.heap.size WZ ω) rfl (by kernel_rfl) (by kernel_rfl) (by kernel_rfl) (by kernel_rfl) (by kernel_rfl) HJ1.out ?_
  refine wpFl_yes _ _ _ _ rfl (by kernel_rfl) (fun ω hj => by first | (go_simp; rfl) | (obtain ⟨f1, f2, f3, f4, f5⟩ := HF.out ω (hj rfl); go_simp; rfl)) ?_
  simp only [List.getElem_toArray, List.getElem_cons_succ, List.getElem_cons_zero, Act.put, List.setIfInBounds_toArray, List.set_cons_succ, List.set_cons_zero]
  refine wpFl_yes _ _ _ _ rfl (by kernel_rfl) (fun ω hj => by first | (go_simp; rfl) | (obtain ⟨f1, f2, f3, f4, f5⟩ := HF.out ω (hj rfl); go_simp; rfl)) ?_
  simp only [List.getElem_toArray, List.getElem_cons_succ, List.getElem_cons_zero, Act.put, List.setIfInBounds_toArray, List.set_cons_succ, List.set_cons_zero]
  refine wpFl_yes _ _ _ _ rfl (by kernel_rfl) (fun ω hj => by first | (go_simp; rfl) | (obtain ⟨f1, f2, f3, f4, f5⟩ := HF.out ω (hj rfl); go_simp; rfl)) ?_
  simp only [List.getElem_toArray, List.getElem_cons_succ, List.getElem_cons_zero, Act.put, List.setIfInBounds_toArray, List.set_cons_succ, List.set_cons_zero]
  refine wpFl_yes _ _ _ _ rfl (by kernel_rfl) (fun ω hj => by first | (go_simp; rfl) | (obtain ⟨f1, f2, f3, f4, f5⟩ := HF.out ω (hj rfl); go_simp; rfl)) ?_
  simp only [List.getElem_toArray, List.getElem_cons_succ, List.getElem_cons_zero, Act.put, List.setIfInBounds_toArray, List.set_cons_succ, List.set_cons_zero]
  refine wpFl_yes _ _ _ _ rfl (by kernel_rfl) (fun ω hj => by first | (go_simp; rfl) | (obtain ⟨f1, f2, f3, f4, f5⟩ := HF.out ω (hj rfl); go_simp; rfl)) ?_
  simp only [List.getElem_toArray, List.getElem_cons_succ, List.getElem_cons_zero, Act.put, List.setIfInBounds_toArray, List.set_cons_succ, List.set_cons_zero]
  refine wpFl_yes _ _ _ _ rfl (by kernel_rfl) (fun ω hj => by first | (go_simp; rfl) | (obtain ⟨f1, f2, f3, f4, f5⟩ := HF.out ω (hj rfl); go_simp; rfl)) ?_
  simp only [List.getElem_toArray, List.getElem_cons_succ, List.getElem_cons_zero, Act.put, List.setIfInBounds_toArray, List.set_cons_succ, List.set_cons_zero]
  refine wpFl_yes _ _ _ _ rfl (by kernel_rfl) (fun ω hj => by first | (go_simp; rfl) | (obtain ⟨f1, f2, f3, f4, f5⟩ := HF.out ω (hj rfl); go_simp; rfl)) ?_
  simp only [List.getElem_toArray, List.getElem_cons_succ, List.getElem_cons_zero, Act.put, List.setIfInBounds_toArray, List.set_cons_succ, List.set_cons_zero]
  refine wpFl_yes _ _ _ _ rfl (by kernel_rfl) (fun ω hj => by first | (go_simp; rfl) | (obtain ⟨f1, f2, f3, f4, f5⟩ := HF.out ω (hj rfl); go_simp; rfl)) ?_
  simp only [List.getElem_toArray, List.getElem_cons_succ, List.getElem_cons_zero, Act.put, List.setIfInBounds_toArray, List.set_cons_succ, List.set_cons_zero]
  refine wpFl_nil _ _ ?_
  refine wpCh_one _ _ _ _ rfl ?_
  simp only [List.getElem_toArray, List.getElem_cons_succ, List.getElem_cons_zero, Act.put, List.setIfInBounds_toArray, List.set_cons_succ, List.set_cons_zero]
  go_wp2_with fail
  refine (C20.out _ HJ1.out).mono ?_
  rintro e v2 ⟨rfl, hj⟩
  have HJ2 := hid_of hj
  clear hj
  go_wp2_with fail
  refine ⟨HJ2.out, ?_⟩
  refine wpCh_rest _ _ _ _ [_, _, _] _ _ rfl (by kernel_rfl) ?_
  simp only [List.getElem_toArray, List.getElem_cons_succ, List.getElem_cons_zero, Act.put, List.setIfInBounds_toArray, List.set_cons_succ, List.set_cons_zero]
  go_wp2_with fail
  exact HKR.out _ _ (by kernel_rfl) HJ2.out
set_option linter.unusedVariables false in
set_option linter.unusedSimpArgs false in
set_option maxRecDepth 100000 in
set_option maxHeartbeats 16000000 in
theorem reg14_2 (rg mb tb pb ub : Nat) (hv tv : Bool) (ga pa : Option Addr) (gn gc pc : Nat) (r : Nat → Int) (px : Int) (WZ : World)
    (HF : Hid (∀ ω, Below WZ.heap.size WZ ω → ω.cell? ⟨rg, 20, none⟩ = some (.pointer (some ⟨pb, 0, none⟩)) ∧ ω.cell? ⟨mb, 19, none⟩ = some (.bool hv) ∧ ω.cell? ⟨mb, 20, none⟩ = some (.bool tv) ∧ ω.cell? ⟨rg, 2, none⟩ = some (.pointer (some ⟨ub, 0, none⟩)) ∧ ω.cell? ⟨mb, 21, none⟩ = some (.slice ga gn gc)))
    (C21 : Hid (∀ ω, Below WZ.heap.size WZ ω → Calls Try.prog 21 #[.pointer (some ⟨pb, 0, none⟩)] ω fun e w' => e = .returned (.bool tv) ∧ Below WZ.heap.size WZ w'))
    (ops : Array Oper) (hops : (Try.f4.body.bind (findR 14)).getD .skip = .region 14 ops true) (Q : Act → World → Prop)
    (HKR : Hid (∀ (act : Act) (w' : World), act = fr4g3 rg mb tb (fun i => act.tmps.getD i undef) → Below WZ.heap.size WZ w' → wpA0 Q Try.prog ops 30 (setAll (setAll (setAll (setAll (setAll (Array.replicate ops.size false) [0, 1, 2, 3]) [4, 5, 6, 7, 9, 10, 11, 12]) [8, 13, 14, 15]) [16, 17, 18, 19, 21, 22, 23, 24]) [20, 25, 26, 27]) act w'))
    (u : Nat → Value) (v2 : World) (HJ2 : Hid (Below WZ.heap.size WZ v2)) : wpA0 Q Try.prog ops 42 (setAll (setAll (setAll (Array.replicate ops.size false) [0, 1, 2, 3]) [4, 5, 6, 7, 9, 10, 11, 12]) [8, 13, 14, 15]) (fr4g2 rg mb tb u) v2 := by
  conv at hops => lhs; whnf
  injection hops with _ ho _
  subst ho
  unfold fr4g2
  refine wpA0_fl [16, 17, 18, 19, 21, 22, 23, 24] [20, 25, 26, 27] [16, 17, 18, 21, 22, 23] 30 (fun ω => Below WZ.heap.size WZ ω) rfl (by kernel_rfl) (by kernel_rfl) (by kernel_rfl) (by kernel_rfl) (by kernel_rfl) HJ2.out ?_
  refine wpFl_yes _ _ _ _ rfl (by kernel_rfl) (fun ω hj => by first | (go_simp; rfl) | (obtain ⟨f1, f2, f3, f4, f5⟩ := HF.out ω (hj rfl); go_simp; rfl)) ?_
  simp only [List.getElem_toArray, List.getElem_cons_succ, List.getElem_cons_zero, Act.put, List.setIfInBounds_toArray, List.set_cons_succ, List.set_cons_zero]
  refine wpFl_yes _ _ _ _ rfl (by kernel_rfl) (fun ω hj => by first | (go_simp; rfl) | (obtain ⟨f1, f2, f3, f4, f5⟩ := HF.out ω (hj rfl); go_simp; rfl)) ?_
  simp only [List.getElem_toArray, List.getElem_cons_succ, List.getElem_cons_zero, Act.put, List.setIfInBounds_toArray, List.set_cons_succ, List.set_cons_zero]
  refine wpFl_yes _ _ _ _ rfl (by kernel_rfl) (fun ω hj => by first | (go_simp; rfl) | (obtain ⟨f1, f2, f3, f4, f5⟩ := HF.out ω (hj rfl); go_simp; rfl)) ?_
  simp only [List.getElem_toArray, List.getElem_cons_succ, List.getElem_cons_zero, Act.put, List.setIfInBounds_toArray, List.set_cons_succ, List.set_cons_zero]
  refine wpFl_yes _ _ _ _ rfl (by kernel_rfl) (fun ω hj => by first | (go_simp; rfl) | (obtain ⟨f1, f2, f3, f4, f5⟩ := HF.out ω (hj rfl); go_simp; rfl)) ?_
  simp only [List.getElem_toArray, List.getElem_cons_succ, List.getElem_cons_zero, Act.put, List.setIfInBounds_toArray, List.set_cons_succ, List.set_cons_zero]
  refine wpFl_yes _ _ _ _ rfl (by kernel_rfl) (fun ω hj => by first | (go_simp; rfl) | (obtain ⟨f1, f2, f3, f4, f5⟩ := HF.out ω (hj rfl); go_simp; rfl)) ?_
  simp only [List.getElem_toArray, List.getElem_cons_succ, List.getElem_cons_zero, Act.put, List.setIfInBounds_toArray, List.set_cons_succ, List.set_cons_zero]
  refine wpFl_yes _ _ _ _ rfl (by kernel_rfl) (fun ω hj => by first | (go_simp; rfl) | (obtain ⟨f1, f2, f3, f4, f5⟩ := HF.out ω (hj rfl); go_simp; rfl)) ?_
  simp only [List.getElem_toArray, List.getElem_cons_succ, List.getElem_cons_zero, Act.put, List.setIfInBounds_toArray, List.set_cons_succ, List.set_cons_zero]
  refine wpFl_yes _ _ _ _ rfl (by kernel_rfl) (fun ω hj => by first | (go_simp; rfl) | (obtain ⟨f1, f2, f3, f4, f5⟩ := HF.out ω (hj rfl); go_simp; rfl)) ?_
  simp only [List.getElem_toArray, List.getElem_cons_succ, List.getElem_cons_zero, Act.put, List.setIfInBounds_toArray, List.set_cons_succ, List.set_cons_zero]
  refine wpFl_yes _ _ _ _ rfl (by kernel_rfl) (fun ω hj => by first | (go_simp; rfl) | (obtain ⟨f1, f2, f3, f4, f5⟩ := HF.out ω (hj rfl); go_simp; rfl)) ?_
  simp only [List.getElem_toArray, List.getElem_cons_succ, List.getElem_cons_zero, Act.put, List.setIfInBounds_toArray, List.set_cons_succ, List.set_cons_zero]
  refine wpFl_nil _ _ ?_
  refine wpCh_one _ _ _ _ rfl ?_
  simp only [List.getElem_toArray, List.getElem_cons_succ, List.getElem_cons_zero, Act.put, List.setIfInBounds_toArray, List.set_cons_succ, List.set_cons_zero]
  go_wp2_with fail
  refine (C21.out _ HJ2.out).mono ?_
  rintro e v3 ⟨rfl, hj⟩
  have HJ3 := hid_of hj
  clear hj
  go_wp2_with fail
  refine ⟨HJ3.out, ?_⟩
  refine wpCh_rest _ _ _ _ [_, _, _] _ _ rfl (by kernel_rfl) ?_
  simp only [List.getElem_toArray, List.getElem_cons_succ, List.getElem_cons_zero, Act.put, List.setIfInBounds_toArray, List.set_cons_succ, List.set_cons_zero]
  go_wp2_with fail
  exact HKR.out _ _ (by kernel_rfl) HJ3.out
set_option linter.unusedVariables false in
set_option linter.unusedSimpArgs false in
set_option maxRecDepth 100000 in
set_option maxHeartbeats 16000000 in
theorem reg14_3 (rg mb tb pb ub : Nat) (hv tv : Bool) (ga pa : Option Addr) (gn gc pc : Nat) (r : Nat → Int) (px : Int) (WZ : World)
    (HF : Hid (∀ ω, Below WZ.heap.size WZ ω → ω.cell? ⟨rg, 20, none⟩ = some (.pointer (some ⟨pb, 0, none⟩)) ∧ ω.cell? ⟨mb, 19, none⟩ = some (.bool hv) ∧ ω.cell? ⟨mb, 20, none⟩ = some (.bool tv) ∧ ω.cell? ⟨rg, 2, none⟩ = some (.pointer (some ⟨ub, 0, none⟩)) ∧ ω.cell? ⟨mb, 21, none⟩ = some (.slice ga gn gc)))
    (C13 : Hid (∀ ω, Below WZ.heap.size WZ ω → Calls Try.prog 13 #[.pointer (some ⟨ub, 0, none⟩)] ω fun e w' => e = .returned (.slice pa gn pc) ∧ Below WZ.heap.size WZ w'))
    (C28 : Hid (∀ ω, Below WZ.heap.size WZ ω → Calls Try.prog 28 #[.slice pa gn pc, .slice ga gn gc] ω fun e w' => e = .returned (.bool true) ∧ Below WZ.heap.size WZ w'))
    (ops : Array Oper) (hops : (Try.f4.body.bind (findR 14)).getD .skip = .region 14 ops true) (Q : Act → World → Prop)
    (HKR : Hid (∀ (act : Act) (w' : World), act = fr4g4 rg mb tb (fun i => act.tmps.getD i undef) → Below WZ.heap.size WZ w' → wpA0 Q Try.prog ops 17 (setAll (setAll (setAll (setAll (setAll (setAll (setAll (Array.replicate ops.size false) [0, 1, 2, 3]) [4, 5, 6, 7, 9, 10, 11, 12]) [8, 13, 14, 15]) [16, 17, 18, 19, 21, 22, 23, 24]) [20, 25, 26, 27]) [28, 29, 30, 31, 33, 34, 35, 36]) [32, 37, 38, 39, 40]) act w'))
    (u : Nat → Value) (v3 : World) (HJ3 : Hid (Below WZ.heap.size WZ v3)) : wpA0 Q Try.prog ops 30 (setAll (setAll (setAll (setAll (setAll (Array.replicate ops.size false) [0, 1, 2, 3]) [4, 5, 6, 7, 9, 10, 11, 12]) [8, 13, 14, 15]) [16, 17, 18, 19, 21, 22, 23, 24]) [20, 25, 26, 27]) (fr4g3 rg mb tb u) v3 := by
  conv at hops => lhs; whnf
  injection hops with _ ho _
  subst ho
  unfold fr4g3
  refine wpA0_fl [28, 29, 30, 31, 33, 34, 35, 36] [32, 37, 38, 39, 40] [28, 29, 30, 33, 34, 35] 17 (fun ω => Below WZ.heap.size WZ ω) rfl (by kernel_rfl) (by kernel_rfl) (by kernel_rfl) (by kernel_rfl) (by kernel_rfl) HJ3.out ?_
  refine wpFl_yes _ _ _ _ rfl (by kernel_rfl) (fun ω hj => by first | (go_simp; rfl) | (obtain ⟨f1, f2, f3, f4, f5⟩ := HF.out ω (hj rfl); go_simp; rfl)) ?_
  simp only [List.getElem_toArray, List.getElem_cons_succ, List.getElem_cons_zero, Act.put, List.setIfInBounds_toArray, List.set_cons_succ, List.set_cons_zero]
  refine wpFl_yes _ _ _ _ rfl (by kernel_rfl) (fun ω hj => by first | (go_simp; rfl) | (obtain ⟨f1, f2, f3, f4, f5⟩ := HF.out ω (hj rfl); go_simp; rfl)) ?_
  simp only [List.getElem_toArray, List.getElem_cons_succ, List.getElem_cons_zero, Act.put, List.setIfInBounds_toArray, List.set_cons_succ, List.set_cons_zero]
  refine wpFl_yes _ _ _ _ rfl (by kernel_rfl) (fun ω hj => by first | (go_simp; rfl) | (obtain ⟨f1, f2, f3, f4, f5⟩ := HF.out ω (hj rfl); go_simp; rfl)) ?_
  simp only [List.getElem_toArray, List.getElem_cons_succ, List.getElem_cons_zero, Act.put, List.setIfInBounds_toArray, List.set_cons_succ, List.set_cons_zero]
  refine wpFl_yes _ _ _ _ rfl (by kernel_rfl) (fun ω hj => by first | (go_simp; rfl) | (obtain ⟨f1, f2, f3, f4, f5⟩ := HF.out ω (hj rfl); go_simp; rfl)) ?_
  simp only [List.getElem_toArray, List.getElem_cons_succ, List.getElem_cons_zero, Act.put, List.setIfInBounds_toArray, List.set_cons_succ, List.set_cons_zero]
  refine wpFl_yes _ _ _ _ rfl (by kernel_rfl) (fun ω hj => by first | (go_simp; rfl) | (obtain ⟨f1, f2, f3, f4, f5⟩ := HF.out ω (hj rfl); go_simp; rfl)) ?_
  simp only [List.getElem_toArray, List.getElem_cons_succ, List.getElem_cons_zero, Act.put, List.setIfInBounds_toArray, List.set_cons_succ, List.set_cons_zero]
  refine wpFl_yes _ _ _ _ rfl (by kernel_rfl) (fun ω hj => by first | (go_simp; rfl) | (obtain ⟨f1, f2, f3, f4, f5⟩ := HF.out ω (hj rfl); go_simp; rfl)) ?_
  simp only [List.getElem_toArray, List.getElem_cons_succ, List.getElem_cons_zero, Act.put, List.setIfInBounds_toArray, List.set_cons_succ, List.set_cons_zero]
  refine wpFl_yes _ _ _ _ rfl (by kernel_rfl) (fun ω hj => by first | (go_simp; rfl) | (obtain ⟨f1, f2, f3, f4, f5⟩ := HF.out ω (hj rfl); go_simp; rfl)) ?_
  simp only [List.getElem_toArray, List.getElem_cons_succ, List.getElem_cons_zero, Act.put, List.setIfInBounds_toArray, List.set_cons_succ, List.set_cons_zero]
  refine wpFl_yes _ _ _ _ rfl (by kernel_rfl) (fun ω hj => by first | (go_simp; rfl) | (obtain ⟨f1, f2, f3, f4, f5⟩ := HF.out ω (hj rfl); go_simp; rfl)) ?_
  simp only [List.getElem_toArray, List.getElem_cons_succ, List.getElem_cons_zero, Act.put, List.setIfInBounds_toArray, List.set_cons_succ, List.set_cons_zero]
  refine wpFl_nil _ _ ?_
  refine wpCh_one _ _ _ _ rfl ?_
  simp only [List.getElem_toArray, List.getElem_cons_succ, List.getElem_cons_zero, Act.put, List.setIfInBounds_toArray, List.set_cons_succ, List.set_cons_zero]
  go_wp2_with fail
  refine (C13.out _ HJ3.out).mono ?_
  rintro e v4 ⟨rfl, hj⟩
  have HJ4 := hid_of hj
  clear hj
  go_wp2_with fail
  refine ⟨HJ4.out, ?_⟩
  refine wpCh_rest _ _ _ _ [_, _, _, _] _ _ rfl (by kernel_rfl) ?_
  simp only [List.getElem_toArray, List.getElem_cons_succ, List.getElem_cons_zero, Act.put, List.setIfInBounds_toArray, List.set_cons_succ, List.set_cons_zero]
  go_wp2_with fail
  refine (C28.out _ HJ4.out).mono ?_
  rintro e v4b ⟨rfl, hj⟩
  have HJ4 := hid_of hj
  clear hj
  go_wp2_with fail
  exact HKR.out _ _ (by kernel_rfl) HJ4.out
set_option linter.unusedVariables false in
set_option linter.unusedSimpArgs false in
set_option maxRecDepth 100000 in
set_option maxHeartbeats 16000000 in
theorem reg14_4 (rg mb tb pb ub : Nat) (hv tv : Bool) (ga pa : Option Addr) (gn gc pc : Nat) (r : Nat → Int) (px : Int) (WZ : World)
    (HF : Hid (∀ ω, Below WZ.heap.size WZ ω → ω.cell? ⟨rg, 20, none⟩ = some (.pointer (some ⟨pb, 0, none⟩)) ∧ ω.cell? ⟨mb, 19, none⟩ = some (.bool hv) ∧ ω.cell? ⟨mb, 20, none⟩ = some (.bool tv) ∧ ω.cell? ⟨rg, 2, none⟩ = some (.pointer (some ⟨ub, 0, none⟩)) ∧ ω.cell? ⟨mb, 21, none⟩ = some (.slice ga gn gc)))
    (HT7 : Hid (∀ ω, Below WZ.heap.size WZ ω → Blk ω tb #[.int .u32 (r 0), .int .u32 (r 1), .int .u32 (r 2), .int .u32 (r 3), .int .u32 (r 4), .int .u32 (r 5), .int .u32 (r 6), .int .u32 (r 7), .int .u32 (r 8), .int .u32 (r 9), .int .u32 (r 10), .int .u32 (r 11), .int .u32 (r 12), .int .u32 (r 13), .int .u32 (r 14), .int .u32 (r 15), .int .u32 px] 55))
    (C22a : Hid (∀ ω, Below WZ.heap.size WZ ω → Calls Try.prog 22 #[.pointer (some ⟨pb, 0, none⟩), .int .i64 0] ω fun e w' => e = .returned (.agg #[.int .u32 (r 0), .int .u32 (r 1), .int .u32 (r 2), .int .u32 (r 3), .int .u32 (r 4), .int .u32 (r 5), .int .u32 (r 6), .int .u32 (r 7), .int .u32 (r 8), .int .u32 (r 9), .int .u32 (r 10), .int .u32 (r 11), .int .u32 (r 12), .int .u32 (r 13), .int .u32 (r 14), .int .u32 (r 15), .int .u32 px]) ∧ Below WZ.heap.size WZ w'))
    (ops : Array Oper) (hops : (Try.f4.body.bind (findR 14)).getD .skip = .region 14 ops true) (Q : Act → World → Prop)
    (HKR : Hid (∀ (act : Act) (w' : World), act = fr4g5 rg mb tb (fun i => act.tmps.getD i undef) → Below WZ.heap.size WZ w' → wpA0 Q Try.prog ops 8 (setAll (setAll (setAll (setAll (setAll (setAll (setAll (setAll (setAll (Array.replicate ops.size false) [0, 1, 2, 3]) [4, 5, 6, 7, 9, 10, 11, 12]) [8, 13, 14, 15]) [16, 17, 18, 19, 21, 22, 23, 24]) [20, 25, 26, 27]) [28, 29, 30, 31, 33, 34, 35, 36]) [32, 37, 38, 39, 40]) [41, 42, 43, 44, 46]) [45, 47, 48, 49]) act w'))
    (u : Nat → Value) (v4 : World) (HJ4 : Hid (Below WZ.heap.size WZ v4)) : wpA0 Q Try.prog ops 17 (setAll (setAll (setAll (setAll (setAll (setAll (setAll (Array.replicate ops.size false) [0, 1, 2, 3]) [4, 5, 6, 7, 9, 10, 11, 12]) [8, 13, 14, 15]) [16, 17, 18, 19, 21, 22, 23, 24]) [20, 25, 26, 27]) [28, 29, 30, 31, 33, 34, 35, 36]) [32, 37, 38, 39, 40]) (fr4g4 rg mb tb u) v4 := by
  conv at hops => lhs; whnf
  injection hops with _ ho _
  subst ho
  have h55 := eq55 r px
  unfold fr4g4
  refine wpA0_fl [41, 42, 43, 44, 46] [45, 47, 48, 49] [41, 42, 43] 8 (fun ω => Below WZ.heap.size WZ ω) rfl (by kernel_rfl) (by kernel_rfl) (by kernel_rfl) (by kernel_rfl) (by kernel_rfl) HJ4.out ?_
  refine wpFl_yes _ _ _ _ rfl (by kernel_rfl) (fun ω hj => by first | (go_simp; rfl) | (obtain ⟨f1, f2, f3, f4, f5⟩ := HF.out ω (hj rfl); go_simp; rfl)) ?_
  simp only [List.getElem_toArray, List.getElem_cons_succ, List.getElem_cons_zero, Act.put, List.setIfInBounds_toArray, List.set_cons_succ, List.set_cons_zero]
  refine wpFl_yes _ _ _ _ rfl (by kernel_rfl) (fun ω hj => by first | (go_simp; rfl) | (obtain ⟨f1, f2, f3, f4, f5⟩ := HF.out ω (hj rfl); go_simp; rfl)) ?_
  simp only [List.getElem_toArray, List.getElem_cons_succ, List.getElem_cons_zero, Act.put, List.setIfInBounds_toArray, List.set_cons_succ, List.set_cons_zero]
  refine wpFl_yes _ _ _ _ rfl (by kernel_rfl) (fun ω hj => by first | (go_simp; rfl) | (obtain ⟨f1, f2, f3, f4, f5⟩ := HF.out ω (hj rfl); go_simp; rfl)) ?_
  simp only [List.getElem_toArray, List.getElem_cons_succ, List.getElem_cons_zero, Act.put, List.setIfInBounds_toArray, List.set_cons_succ, List.set_cons_zero]
  refine wpFl_yes _ _ _ _ rfl (by kernel_rfl) (fun ω hj => by first | (go_simp; rfl) | (obtain ⟨f1, f2, f3, f4, f5⟩ := HF.out ω (hj rfl); go_simp; rfl)) ?_
  simp only [List.getElem_toArray, List.getElem_cons_succ, List.getElem_cons_zero, Act.put, List.setIfInBounds_toArray, List.set_cons_succ, List.set_cons_zero]
  refine wpFl_yes _ _ _ _ rfl (by kernel_rfl) (fun ω hj => by
    have m0 : ω.cell? ⟨tb, 0, none⟩ = some (.int .u32 (r 0)) := (HT7.out ω (hj rfl)).cell 0
    have m1 : ω.cell? ⟨tb, 1, none⟩ = some (.int .u32 (r 1)) := (HT7.out ω (hj rfl)).cell 1
    have m2 : ω.cell? ⟨tb, 2, none⟩ = some (.int .u32 (r 2)) := (HT7.out ω (hj rfl)).cell 2
    have m3 : ω.cell? ⟨tb, 3, none⟩ = some (.int .u32 (r 3)) := (HT7.out ω (hj rfl)).cell 3
    have m4 : ω.cell? ⟨tb, 4, none⟩ = some (.int .u32 (r 4)) := (HT7.out ω (hj rfl)).cell 4
    have m5 : ω.cell? ⟨tb, 5, none⟩ = some (.int .u32 (r 5)) := (HT7.out ω (hj rfl)).cell 5
    have m6 : ω.cell? ⟨tb, 6, none⟩ = some (.int .u32 (r 6)) := (HT7.out ω (hj rfl)).cell 6
    have m7 : ω.cell? ⟨tb, 7, none⟩ = some (.int .u32 (r 7)) := (HT7.out ω (hj rfl)).cell 7
    have m8 : ω.cell? ⟨tb, 8, none⟩ = some (.int .u32 (r 8)) := (HT7.out ω (hj rfl)).cell 8
    have m9 : ω.cell? ⟨tb, 9, none⟩ = some (.int .u32 (r 9)) := (HT7.out ω (hj rfl)).cell 9
    have m10 : ω.cell? ⟨tb, 10, none⟩ = some (.int .u32 (r 10)) := (HT7.out ω (hj rfl)).cell 10
    have m11 : ω.cell? ⟨tb, 11, none⟩ = some (.int .u32 (r 11)) := (HT7.out ω (hj rfl)).cell 11
    have m12 : ω.cell? ⟨tb, 12, none⟩ = some (.int .u32 (r 12)) := (HT7.out ω (hj rfl)).cell 12
    have m13 : ω.cell? ⟨tb, 13, none⟩ = some (.int .u32 (r 13)) := (HT7.out ω (hj rfl)).cell 13
    have m14 : ω.cell? ⟨tb, 14, none⟩ = some (.int .u32 (r 14)) := (HT7.out ω (hj rfl)).cell 14
    have m15 : ω.cell? ⟨tb, 15, none⟩ = some (.int .u32 (r 15)) := (HT7.out ω (hj rfl)).cell 15
    have m16 : ω.cell? ⟨tb, 16, none⟩ = some (.int .u32 px) := (HT7.out ω (hj rfl)).cell 16
    go_simp; rfl) ?_
  simp only [List.getElem_toArray, List.getElem_cons_succ, List.getElem_cons_zero, Act.put, List.setIfInBounds_toArray, List.set_cons_succ, List.set_cons_zero]
  refine wpFl_nil _ _ ?_
  refine wpCh_one _ _ _ _ rfl ?_
  simp only [List.getElem_toArray, List.getElem_cons_succ, List.getElem_cons_zero, Act.put, List.setIfInBounds_toArray, List.set_cons_succ, List.set_cons_zero]
  go_wp2_with fail
  refine (C22a.out _ HJ4.out).mono ?_
  rintro e v5 ⟨rfl, hj⟩
  have HJ5 := hid_of hj
  clear hj
  go_wp2_with fail
  refine ⟨HJ5.out, ?_⟩
  refine wpCh_rest _ _ _ _ [_, _, _] _ _ rfl (by kernel_rfl) ?_
  simp only [List.getElem_toArray, List.getElem_cons_succ, List.getElem_cons_zero, Act.put, List.setIfInBounds_toArray, List.set_cons_succ, List.set_cons_zero]
  go_wp2_with fail
  exact HKR.out _ _ (by kernel_rfl) HJ5.out
set_option linter.unusedVariables false in
set_option linter.unusedSimpArgs false in
set_option maxRecDepth 100000 in
set_option maxHeartbeats 16000000 in
theorem reg14_5 (rg mb tb pb ub : Nat) (hv tv : Bool) (ga pa : Option Addr) (gn gc pc : Nat) (r : Nat → Int) (px : Int) (WZ : World)
    (HF : Hid (∀ ω, Below WZ.heap.size WZ ω → ω.cell? ⟨rg, 20, none⟩ = some (.pointer (some ⟨pb, 0, none⟩)) ∧ ω.cell? ⟨mb, 19, none⟩ = some (.bool hv) ∧ ω.cell? ⟨mb, 20, none⟩ = some (.bool tv) ∧ ω.cell? ⟨rg, 2, none⟩ = some (.pointer (some ⟨ub, 0, none⟩)) ∧ ω.cell? ⟨mb, 21, none⟩ = some (.slice ga gn gc)))
    (HT7 : Hid (∀ ω, Below WZ.heap.size WZ ω → Blk ω tb #[.int .u32 (r 0), .int .u32 (r 1), .int .u32 (r 2), .int .u32 (r 3), .int .u32 (r 4), .int .u32 (r 5), .int .u32 (r 6), .int .u32 (r 7), .int .u32 (r 8), .int .u32 (r 9), .int .u32 (r 10), .int .u32 (r 11), .int .u32 (r 12), .int .u32 (r 13), .int .u32 (r 14), .int .u32 (r 15), .int .u32 px] 55))
    (C22b : Hid (∀ ω, Below WZ.heap.size WZ ω → Calls Try.prog 22 #[.pointer (some ⟨pb, 0, none⟩), .int .i64 1] ω fun e w' => e = .returned (.agg #[.int .u32 (r 0), .int .u32 (r 1), .int .u32 (r 2), .int .u32 (r 3), .int .u32 (r 4), .int .u32 (r 5), .int .u32 (r 6), .int .u32 (r 7), .int .u32 (r 8), .int .u32 (r 9), .int .u32 (r 10), .int .u32 (r 11), .int .u32 (r 12), .int .u32 (r 13), .int .u32 (r 14), .int .u32 (r 15), .int .u32 px]) ∧ Below WZ.heap.size WZ w'))
    (ops : Array Oper) (hops : (Try.f4.body.bind (findR 14)).getD .skip = .region 14 ops true) (Q : Act → World → Prop)
    (HKR : Hid (∀ (act : Act) (w' : World), act = fr4e rg (fun i => act.tmps.getD i undef) → Below WZ.heap.size WZ w' → Q act w'))
    (u : Nat → Value) (v5 : World) (HJ5 : Hid (Below WZ.heap.size WZ v5)) : wpA0 Q Try.prog ops 8 (setAll (setAll (setAll (setAll (setAll (setAll (setAll (setAll (setAll (Array.replicate ops.size false) [0, 1, 2, 3]) [4, 5, 6, 7, 9, 10, 11, 12]) [8, 13, 14, 15]) [16, 17, 18, 19, 21, 22, 23, 24]) [20, 25, 26, 27]) [28, 29, 30, 31, 33, 34, 35, 36]) [32, 37, 38, 39, 40]) [41, 42, 43, 44, 46]) [45, 47, 48, 49]) (fr4g5 rg mb tb u) v5 := by
  conv at hops => lhs; whnf
  injection hops with _ ho _
  subst ho
  have h55 := eq55 r px
  unfold fr4g5
  refine wpA0_fl [50, 51, 52, 53, 55] [54, 56, 57] [50, 51, 52] 0 (fun ω => Below WZ.heap.size WZ ω) rfl (by kernel_rfl) (by kernel_rfl) (by kernel_rfl) (by kernel_rfl) (by kernel_rfl) HJ5.out ?_
  refine wpFl_yes _ _ _ _ rfl (by kernel_rfl) (fun ω hj => by first | (go_simp; rfl) | (obtain ⟨f1, f2, f3, f4, f5⟩ := HF.out ω (hj rfl); go_simp; rfl)) ?_
  simp only [List.getElem_toArray, List.getElem_cons_succ, List.getElem_cons_zero, Act.put, List.setIfInBounds_toArray, List.set_cons_succ, List.set_cons_zero]
  refine wpFl_yes _ _ _ _ rfl (by kernel_rfl) (fun ω hj => by first | (go_simp; rfl) | (obtain ⟨f1, f2, f3, f4, f5⟩ := HF.out ω (hj rfl); go_simp; rfl)) ?_
  simp only [List.getElem_toArray, List.getElem_cons_succ, List.getElem_cons_zero, Act.put, List.setIfInBounds_toArray, List.set_cons_succ, List.set_cons_zero]
  refine wpFl_yes _ _ _ _ rfl (by kernel_rfl) (fun ω hj => by first | (go_simp; rfl) | (obtain ⟨f1, f2, f3, f4, f5⟩ := HF.out ω (hj rfl); go_simp; rfl)) ?_
  simp only [List.getElem_toArray, List.getElem_cons_succ, List.getElem_cons_zero, Act.put, List.setIfInBounds_toArray, List.set_cons_succ, List.set_cons_zero]
  refine wpFl_yes _ _ _ _ rfl (by kernel_rfl) (fun ω hj => by first | (go_simp; rfl) | (obtain ⟨f1, f2, f3, f4, f5⟩ := HF.out ω (hj rfl); go_simp; rfl)) ?_
  simp only [List.getElem_toArray, List.getElem_cons_succ, List.getElem_cons_zero, Act.put, List.setIfInBounds_toArray, List.set_cons_succ, List.set_cons_zero]
  refine wpFl_yes _ _ _ _ rfl (by kernel_rfl) (fun ω hj => by
    have m0 : ω.cell? ⟨tb, 0, none⟩ = some (.int .u32 (r 0)) := (HT7.out ω (hj rfl)).cell 0
    have m1 : ω.cell? ⟨tb, 1, none⟩ = some (.int .u32 (r 1)) := (HT7.out ω (hj rfl)).cell 1
    have m2 : ω.cell? ⟨tb, 2, none⟩ = some (.int .u32 (r 2)) := (HT7.out ω (hj rfl)).cell 2
    have m3 : ω.cell? ⟨tb, 3, none⟩ = some (.int .u32 (r 3)) := (HT7.out ω (hj rfl)).cell 3
    have m4 : ω.cell? ⟨tb, 4, none⟩ = some (.int .u32 (r 4)) := (HT7.out ω (hj rfl)).cell 4
    have m5 : ω.cell? ⟨tb, 5, none⟩ = some (.int .u32 (r 5)) := (HT7.out ω (hj rfl)).cell 5
    have m6 : ω.cell? ⟨tb, 6, none⟩ = some (.int .u32 (r 6)) := (HT7.out ω (hj rfl)).cell 6
    have m7 : ω.cell? ⟨tb, 7, none⟩ = some (.int .u32 (r 7)) := (HT7.out ω (hj rfl)).cell 7
    have m8 : ω.cell? ⟨tb, 8, none⟩ = some (.int .u32 (r 8)) := (HT7.out ω (hj rfl)).cell 8
    have m9 : ω.cell? ⟨tb, 9, none⟩ = some (.int .u32 (r 9)) := (HT7.out ω (hj rfl)).cell 9
    have m10 : ω.cell? ⟨tb, 10, none⟩ = some (.int .u32 (r 10)) := (HT7.out ω (hj rfl)).cell 10
    have m11 : ω.cell? ⟨tb, 11, none⟩ = some (.int .u32 (r 11)) := (HT7.out ω (hj rfl)).cell 11
    have m12 : ω.cell? ⟨tb, 12, none⟩ = some (.int .u32 (r 12)) := (HT7.out ω (hj rfl)).cell 12
    have m13 : ω.cell? ⟨tb, 13, none⟩ = some (.int .u32 (r 13)) := (HT7.out ω (hj rfl)).cell 13
    have m14 : ω.cell? ⟨tb, 14, none⟩ = some (.int .u32 (r 14)) := (HT7.out ω (hj rfl)).cell 14
    have m15 : ω.cell? ⟨tb, 15, none⟩ = some (.int .u32 (r 15)) := (HT7.out ω (hj rfl)).cell 15
    have m16 : ω.cell? ⟨tb, 16, none⟩ = some (.int .u32 px) := (HT7.out ω (hj rfl)).cell 16
    go_simp; rfl) ?_
  simp only [List.getElem_toArray, List.getElem_cons_succ, List.getElem_cons_zero, Act.put, List.setIfInBounds_toArray, List.set_cons_succ, List.set_cons_zero]
  refine wpFl_nil _ _ ?_
  refine wpCh_one _ _ _ _ rfl ?_
  simp only [List.getElem_toArray, List.getElem_cons_succ, List.getElem_cons_zero, Act.put, List.setIfInBounds_toArray, List.set_cons_succ, List.set_cons_zero]
  go_wp2_with fail
  refine (C22b.out _ HJ5.out).mono ?_
  rintro e v6 ⟨rfl, hj⟩
  have HJ6 := hid_of hj
  clear hj
  go_wp2_with fail
  refine ⟨HJ6.out, ?_⟩
  refine wpCh_rest _ _ _ _ [_, _] _ _ rfl (by kernel_rfl) ?_
  simp only [List.getElem_toArray, List.getElem_cons_succ, List.getElem_cons_zero, Act.put, List.setIfInBounds_toArray, List.set_cons_succ, List.set_cons_zero]
  go_wp2_with fail
  refine wpA0_end (by kernel_rfl) ?_
  exact HKR.out _ _ (by kernel_rfl) HJ6.out
set_option linter.unusedVariables false in
set_option linter.unusedSimpArgs false in
set_option maxRecDepth 100000 in
set_option maxHeartbeats 16000000 in
theorem reg14 (rg mb tb pb ub : Nat) (hv tv : Bool) (ga pa : Option Addr) (gn gc pc : Nat) (r : Nat → Int) (px : Int) (WZ : World)
    (HF : Hid (∀ ω, Below WZ.heap.size WZ ω → ω.cell? ⟨rg, 20, none⟩ = some (.pointer (some ⟨pb, 0, none⟩)) ∧ ω.cell? ⟨mb, 19, none⟩ = some (.bool hv) ∧ ω.cell? ⟨mb, 20, none⟩ = some (.bool tv) ∧ ω.cell? ⟨rg, 2, none⟩ = some (.pointer (some ⟨ub, 0, none⟩)) ∧ ω.cell? ⟨mb, 21, none⟩ = some (.slice ga gn gc)))
    (HT7 : Hid (∀ ω, Below WZ.heap.size WZ ω → Blk ω tb #[.int .u32 (r 0), .int .u32 (r 1), .int .u32 (r 2), .int .u32 (r 3), .int .u32 (r 4), .int .u32 (r 5), .int .u32 (r 6), .int .u32 (r 7), .int .u32 (r 8), .int .u32 (r 9), .int .u32 (r 10), .int .u32 (r 11), .int .u32 (r 12), .int .u32 (r 13), .int .u32 (r 14), .int .u32 (r 15), .int .u32 px] 55))
    (C19 : Hid (∀ ω, Below WZ.heap.size WZ ω → Calls Try.prog 19 #[.pointer (some ⟨rg, 0, none⟩)] ω fun e w' => e = .returned (.bool true) ∧ Below WZ.heap.size WZ w'))
    (C20 : Hid (∀ ω, Below WZ.heap.size WZ ω → Calls Try.prog 20 #[.pointer (some ⟨pb, 0, none⟩)] ω fun e w' => e = .returned (.bool hv) ∧ Below WZ.heap.size WZ w'))
    (C21 : Hid (∀ ω, Below WZ.heap.size WZ ω → Calls Try.prog 21 #[.pointer (some ⟨pb, 0, none⟩)] ω fun e w' => e = .returned (.bool tv) ∧ Below WZ.heap.size WZ w'))
    (C13 : Hid (∀ ω, Below WZ.heap.size WZ ω → Calls Try.prog 13 #[.pointer (some ⟨ub, 0, none⟩)] ω fun e w' => e = .returned (.slice pa gn pc) ∧ Below WZ.heap.size WZ w'))
    (C28 : Hid (∀ ω, Below WZ.heap.size WZ ω → Calls Try.prog 28 #[.slice pa gn pc, .slice ga gn gc] ω fun e w' => e = .returned (.bool true) ∧ Below WZ.heap.size WZ w'))
    (C22a : Hid (∀ ω, Below WZ.heap.size WZ ω → Calls Try.prog 22 #[.pointer (some ⟨pb, 0, none⟩), .int .i64 0] ω fun e w' => e = .returned (.agg #[.int .u32 (r 0), .int .u32 (r 1), .int .u32 (r 2), .int .u32 (r 3), .int .u32 (r 4), .int .u32 (r 5), .int .u32 (r 6), .int .u32 (r 7), .int .u32 (r 8), .int .u32 (r 9), .int .u32 (r 10), .int .u32 (r 11), .int .u32 (r 12), .int .u32 (r 13), .int .u32 (r 14), .int .u32 (r 15), .int .u32 px]) ∧ Below WZ.heap.size WZ w'))
    (C22b : Hid (∀ ω, Below WZ.heap.size WZ ω → Calls Try.prog 22 #[.pointer (some ⟨pb, 0, none⟩), .int .i64 1] ω fun e w' => e = .returned (.agg #[.int .u32 (r 0), .int .u32 (r 1), .int .u32 (r 2), .int .u32 (r 3), .int .u32 (r 4), .int .u32 (r 5), .int .u32 (r 6), .int .u32 (r 7), .int .u32 (r 8), .int .u32 (r 9), .int .u32 (r 10), .int .u32 (r 11), .int .u32 (r 12), .int .u32 (r 13), .int .u32 (r 14), .int .u32 (r 15), .int .u32 px]) ∧ Below WZ.heap.size WZ w'))
    (KR : Act → World → Prop) (HKR : Hid (∀ (act : Act) (w' : World), act = fr4e rg (fun i => act.tmps.getD i undef) → Below WZ.heap.size WZ w' → KR act w')) (Q0 : Exit → Act → World → Prop)
    (code : Code) (hcode : code = (Try.f4.body.bind (findR 14)).getD .skip) (u : Nat → Value) : code.wp Try.prog (Exit.then KR Q0) (fr4v rg mb tb u) WZ := by
  obtain ⟨l, hl⟩ : ∃ l : List Oper, code = .region 14 l.toArray true := ⟨_, by rw [hcode]; rfl⟩
  have hops := hcode.symm.trans hl
  rw [hl]
  have hlen : 58 = l.length := by
    rw [hcode] at hl
    conv at hl => lhs; whnf
    injection hl with _ ho _
    exact (congrArg Array.size ho).trans (List.size_toArray ..)
  refine wp_region_stages mixed 58 hlen ?_
  refine reg14_0 rg mb tb pb ub hv tv ga pa gn gc pc r px WZ C19 l.toArray hops _ ?_ u _ ⟨rfl, rfl, rfl, Nat.le_refl _, fun _ _ => rfl⟩
  intro a1 v1 h1 k1
  rw [h1]
  refine reg14_1 rg mb tb pb ub hv tv ga pa gn gc pc r px WZ HF C20 l.toArray hops _ ?_ _ _ (hid_of k1)
  intro a2 v2 h2 k2
  rw [h2]
  refine reg14_2 rg mb tb pb ub hv tv ga pa gn gc pc r px WZ HF C21 l.toArray hops _ ?_ _ _ (hid_of k2)
  intro a3 v3 h3 k3
  rw [h3]
  refine reg14_3 rg mb tb pb ub hv tv ga pa gn gc pc r px WZ HF C13 C28 l.toArray hops _ ?_ _ _ (hid_of k3)
  intro a4 v4 h4 k4
  rw [h4]
  refine reg14_4 rg mb tb pb ub hv tv ga pa gn gc pc r px WZ HF HT7 C22a l.toArray hops _ ?_ _ _ (hid_of k4)
  intro a5 v5 h5 k5
  rw [h5]
  refine reg14_5 rg mb tb pb ub hv tv ga pa gn gc pc r px WZ HF HT7 C22b l.toArray hops _ ?_ _ _ (hid_of k5)
  intro a6 v6 h6 k6
  exact HKR.out _ _ h6 k6
end Go.Proofs.Qxb6500749a
