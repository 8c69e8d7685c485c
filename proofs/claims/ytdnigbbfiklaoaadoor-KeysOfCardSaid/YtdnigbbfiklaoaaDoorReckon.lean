/- The key schedule's first secrets, reckoned by the kernel. -/
import Derived.Test.YtdnigbbfiklaoaaDoorHmacSpec
namespace Go.Proofs.YtdnigbbfiklaoaaDoor
namespace Sha
def nDer : List UInt8 := [100, 101, 114, 105, 118, 101, 100]
def nChs : List UInt8 := [99, 32, 104, 115, 32, 116, 114, 97, 102, 102, 105, 99]
def nShs : List UInt8 := [115, 32, 104, 115, 32, 116, 114, 97, 102, 102, 105, 99]
def litE : List UInt8 := [51, 173, 10, 28, 96, 126, 192, 59, 9, 230, 205, 152, 147, 104, 12, 226, 16, 173, 243, 0, 170, 31, 38, 96, 225, 178, 46, 16, 241, 112, 249, 42]
def litD : List UInt8 := [111, 38, 21, 161, 8, 199, 2, 197, 103, 143, 84, 252, 157, 186, 182, 151, 22, 192, 118, 24, 156, 72, 37, 12, 235, 234, 195, 87, 108, 54, 17, 186]
def litH : List UInt8 := [151, 83, 127, 96, 155, 115, 198, 197, 73, 113, 25, 201, 148, 174, 215, 63, 177, 112, 132, 192, 208, 14, 166, 170, 9, 123, 171, 156, 109, 57, 104, 249]
def litC : List UInt8 := [49, 77, 189, 89, 173, 131, 67, 216, 144, 68, 104, 19, 45, 243, 171, 251, 89, 69, 120, 159, 210, 244, 97, 48, 81, 218, 146, 253, 47, 135, 155, 26]
def litS : List UInt8 := [98, 149, 83, 248, 87, 240, 46, 145, 42, 173, 82, 216, 21, 143, 45, 168, 122, 108, 62, 20, 144, 213, 172, 84, 173, 16, 153, 121, 168, 245, 142, 31]
set_option maxRecDepth 100000
theorem reckE : hmac (List.replicate 32 0) (List.replicate 32 0) = litE := by decide +kernel
theorem reckD : label litE nDer (sha []) 32 = litD := by decide +kernel
theorem reckH : hmac litD (List.replicate 32 0) = litH := by decide +kernel
theorem reckC : label litH nChs (List.replicate 32 0) 32 = litC := by decide +kernel
theorem reckS : label litH nShs (List.replicate 32 0) 32 = litS := by decide +kernel
end Sha
end Go.Proofs.YtdnigbbfiklaoaaDoor
